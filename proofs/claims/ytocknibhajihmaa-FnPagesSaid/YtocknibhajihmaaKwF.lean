/- Ends of paths, loops by an invariant with rounds, choosing what one keeps, handing on for good, lending; lists made, cut; strings. Conditions: none. -/
import Derived.Test.YtocknibhajihmaaKwE
set_option linter.unusedVariables false
set_option linter.unusedSimpArgs false
namespace Go.Kw

/-! ### how a path goes on -/
section
variable {P : Program} {Q : Exit → Act → World → Prop} {K : Act → World → Prop} {a : Act} {w : World} {id id' : Nat}
theorem xn (h : K a w) : Exit.then K Q .normal a w := h
theorem xe (h : Q (.exit id) a w) : Exit.then K Q (.exit id) a w := h
theorem xr (h : Q .ret a w) : Exit.then K Q .ret a w := h
theorem bn (h : Q .normal a w) : Exit.inBlock id Q .normal a w := h
theorem br (h : Q .ret a w) : Exit.inBlock id Q .ret a w := h
theorem hit (h : Q .normal a w) : Exit.inBlock id Q (.exit id) a w := by simpa [Exit.inBlock] using h
theorem mis (hne : id' ≠ id) (h : Q (.exit id') a w) : Exit.inBlock id Q (.exit id') a w := by simpa [Exit.inBlock, hne] using h

theorem loop_ind {c : Code} (I : Nat → Act → World → Prop) (k : Nat) (h0 : I k a w) (hz : ∀ a w, ¬ I 0 a w) (hs : ∀ k a w, I (k + 1) a w → c.wp P (Exit.then (fun a w => I k a w) Q) a w) : (Code.loop c).wp P Q a w := by
  refine wp_loop_rounds k ?_
  induction k generalizing a w with
  | zero => exact (hz a w h0).elim
  | succ k ih =>
    rw [rounds_succ]
    refine wp_mono (hs k a w h0) ?_
    intro e a w q
    cases e <;> first | exact ih q | exact q
end

/-! ### how a plain function goes on -/
section
variable {α β : Type}
/-- What a piece of a function comes to: it returns, or goes on. -/
inductive Ex (α β : Type) where
  | ret (r : α)
  | go (s : β)
def Ex.on {α β γ : Type} (x : Ex α β) (f : α → Option γ) (g : β → Option γ) : Option γ := match x with
  | .ret r => f r
  | .go s => g s
/-- A value under a name. -/
def nm (x : α) (f : α → Option β) : Option β := f x
theorem hb {o : Option α} {f : α → Option β} {r : β} (H : o.bind f = some r) : ∃ x, o = some x ∧ f x = some r := by
  cases o with
  | none => cases H
  | some x => exact ⟨x, rfl, H⟩
theorem hit' {c : Prop} [Decidable c] {x y : Option β} {r : β} (hc : c) (H : (if c then x else y) = some r) : x = some r := by rwa [if_pos hc] at H
theorem hif {c : Prop} [Decidable c] {x y : Option β} {r : β} (hc : ¬ c) (H : (if c then x else y) = some r) : y = some r := by rwa [if_neg hc] at H
theorem hbt {b : Bool} {x y : Option β} {r : β} (hc : b = true) (H : (if b = true then x else y) = some r) : x = some r := by rwa [if_pos hc] at H
theorem hbf {b : Bool} {x y : Option β} {r : β} (hc : b = false) (H : (if b = true then x else y) = some r) : y = some r := by rwa [if_neg (by simp [hc])] at H
/-- A test that must come out well. -/
theorem hck {c : Prop} [Decidable c] {x : Option β} {r : β} (H : (if c then x else none) = some r) : c ∧ x = some r := by
  by_cases hc : c
  · rw [if_pos hc] at H; exact ⟨hc, H⟩
  · rw [if_neg hc] at H; cases H
theorem hnm {x : α} {f : α → Option β} {r : β} (H : nm x f = some r) : ∃ y, x = y ∧ f y = some r := ⟨x, rfl, H⟩
theorem hsm {x y : α} (H : some x = some y) : x = y := Option.some.inj H
theorem hon1 {α' β' : Type} {x : α'} {f : α' → Option β} {g : β' → Option β} {r : β} (H : Ex.on (.ret x) f g = some r) : f x = some r := H
theorem hon2 {α' β' : Type} {x : β'} {f : α' → Option β} {g : β' → Option β} {r : β} (H : Ex.on (.go x) f g = some r) : g x = some r := H
end

/-! ### what one keeps -/
def sel : List Nat → List Asn → Option (List Asn)
  | [], _ => some []
  | i :: is, A => match Kw.pull i A with
    | some (a, B) => match sel is B with
      | some r => some (a :: r)
      | none => none
    | none => none
theorem Own.sel {σ h : HF} : ∀ {is : List Nat} {A A' : List Asn} {F : Nat → Prop}, Kw.sel is A = some A' → Own σ h A F → ∃ F', Own σ h A' F' ∧ ∀ b, F' b → F b
  | [], A, A', F, e, k => by simp [Kw.sel] at e; subst e; exact ⟨fun _ => False, fun _ h => h, fun _ h => h.elim⟩
  | i :: is, A, A', F, e, k => by
    simp only [Kw.sel] at e
    cases hp : Kw.pull i A with
    | none => rw [hp] at e; cases e
    | some y =>
      obtain ⟨a, B⟩ := y
      rw [hp] at e
      simp only at e
      cases hs : Kw.sel is B with
      | none => rw [hs] at e; cases e
      | some r =>
        rw [hs] at e
        simp at e
        subst e
        obtain ⟨F1, F2, k1, k2, k3, k4⟩ := k.pull hp
        obtain ⟨F3, k5, k6⟩ := Own.sel hs k2
        exact ⟨fun b => F1 b ∨ F3 b, ⟨F1, F3, k1, k5, fun b h1 h2 => k3 b h1 (k6 b h2), fun _ => Iff.rfl⟩, fun b hb => (k4 b).2 (hb.imp id (k6 b))⟩
theorem St.sel {e : En} {σ : HF} {w : World} {A A' : List Asn} {is : List Nat} (h : St e σ w A) (hs : Kw.sel is A = some A') : St e σ w A' := by
  obtain ⟨F, k, hF, hσ⟩ := h.own
  obtain ⟨F', k', hF'⟩ := k.sel hs
  exact { h with own := ⟨F', k', fun b hb => hF b (hF' b hb), fun b o ho hb => hσ b o ho (hF' b hb)⟩ }

/-! ### handing on for good -/
section
variable {e : En} {σ : HF} {w : World} {A B : List Asn}
open Classical in
theorem St.fix {a : Asn} (hS : St e σ w (a :: B)) : ∃ σ' F, Sub σ σ' ∧ a.p σ (hf w) F ∧ (∀ b, F b → σ' b = w.heap[b]?) ∧ St e σ' w B := by
  obtain ⟨F1, k1, k2, k⟩ := St.upd (Ap := [a]) (B := B) hS
  have k1' := Own.one.1 k1
  refine ⟨fun b => if F1 b then w.heap[b]? else σ b, F1, ?_, k1', fun b hb => by simp [hb], ?_⟩
  · intro b o hb
    have : ¬ F1 b := k2 b o hb
    simp [this, hb]
  · refine k w _ [] (fun _ => False) rfl rfl rfl (Nat.le_refl _) (fun _ _ _ => rfl) ?_ ?_ ?_ (Own.nil _ _) (fun _ h => h.elim) (fun _ _ _ h => h)
    · intro b o hb
      have : ¬ F1 b := k2 b o hb
      simp [this, hb]
    · intro b o hb
      by_cases h1 : F1 b
      · exact .inr (.inl h1)
      · simp [h1] at hb; exact .inl hb
    · intro b o hb
      by_cases h1 : F1 b
      · simpa [h1] using hb
      · simp [h1] at hb; exact hS.ro b o hb
theorem ow_sl {α : Type} {kd : Kd α} {et : TypeId} {v : Value} {xs : List α} {F : Nat → Prop} {h σ' : HF} (hp : (Ow kd et v xs).p σ h F) (hs : Sub σ σ') (hF : ∀ b, F b → σ' b = h b) : Sl kd σ' v xs := by
  rcases hp with ⟨A, rfl, rfl, _⟩ | ⟨g, off, cap, cur, fr, rfl, hg, hFg, hc, _, _, _, hR⟩
  · exact Sl.nil _ _ _ _
  · refine ⟨_, cap, rfl, hc, .inr ⟨g, off, cur, et, fr, rfl, ?_, hR.mono hs⟩⟩
    rw [hF g ((hFg g).2 rfl)]; exact hg
theorem St.freeze {α : Type} {kd : Kd α} {et : TypeId} {v : Value} {xs : List α} {i : Nat} (hS : St e σ w A) (hp : Kw.pull i A = some (Ow kd et v xs, B)) : ∃ σ', Sub σ σ' ∧ Sl kd σ' v xs ∧ St e σ' w B := by
  obtain ⟨σ', F, h1, h2, h3, h4⟩ := (hS.pull hp).fix
  exact ⟨σ', h1, ow_sl h2 h1 h3, h4⟩
theorem St.freezeB {g : Nat} {T : TypeId} {cs : List Value} {i : Nat} (hS : St e σ w A) (hp : Kw.pull i A = some (Kw.pt g T cs, B)) : ∃ σ', Sub σ σ' ∧ σ' g = some (.cells cs.toArray T (0, 0)) ∧ St e σ' w B := by
  obtain ⟨σ', F, h1, h2, h3, h4⟩ := (hS.pull hp).fix
  exact ⟨σ', h1, by rw [h3 g ((h2.2 g).2 rfl)]; exact h2.1, h4⟩
/-- A box that is read for good, as a pointer to its value. -/
theorem Pr.box {α : Type} {kd : Kd α} {g : Nat} {T : TypeId} {cs : List Value} {x : α} (h : σ g = some (.cells cs.toArray T (0, 0))) (hk : kd.K σ x cs) : Pr kd σ ⟨g, 0, none⟩ x :=
  ⟨rfl, cs.toArray, T, (0, 0), cs, h, hk, fun j v hj => by simpa using hj⟩

/-! ### lending -/
def Kd.Flat {α : Type} (kd : Kd α) : Prop := ∀ {σ σ' x cs}, kd.K σ x cs → kd.K σ' x cs
def Asn.Flat (a : Asn) : Prop := ∀ {σ σ' h F}, a.p σ h F → a.p σ' h F
theorem pt_flat (g : Nat) (T : TypeId) (cs : List Value) : (pt g T cs).Flat := fun h => h
theorem Ow_flat {α : Type} {kd : Kd α} (hk : kd.Flat) (et : TypeId) (v : Value) (xs : List α) : (Ow kd et v xs).Flat := by
  intro σ σ' h F hp
  rcases hp with hp | ⟨g, off, cap, cur, fr, h1, h2, h3, h4, h5, h6, h7, h8⟩
  · exact .inl hp
  · exact .inr ⟨g, off, cap, cur, fr, h1, h2, h3, h4, h5, h6, h7, fun i x hi => let ⟨cs, hk', hw⟩ := h8 i x hi; ⟨cs, hk hk', hw⟩⟩
def AllFlat : List Asn → Prop
  | [] => True
  | a :: r => a.Flat ∧ AllFlat r
theorem Own.flat {σ σ' h : HF} : ∀ {A : List Asn} {F : Nat → Prop}, AllFlat A → Own σ h A F → Own σ' h A F
  | [], _, _, k => k
  | a :: r, _, ⟨h1, h2⟩, ⟨F1, F2, k1, k2, k3, k4⟩ => ⟨F1, F2, h1 k1, Own.flat h2 k2, k3, k4⟩

/-- What is lent, as it is read meanwhile. -/
def Lent (σ σb h : HF) (Bs : List Asn) : Prop := ∃ F, Own σ h Bs F ∧ ∀ b, F b → σb b = h b
theorem Lent.ow {α : Type} {kd : Kd α} {et : TypeId} {v : Value} {xs : List α} {σb h : HF} {Bs : List Asn} (hl : Lent σ σb h (Ow kd et v xs :: Bs)) (hs : Sub σ σb) : Sl kd σb v xs ∧ Lent σ σb h Bs := by
  obtain ⟨F, ⟨F1, F2, k1, k2, k3, k4⟩, hF⟩ := hl
  exact ⟨ow_sl k1 hs (fun b hb => hF b ((k4 b).2 (.inl hb))), F2, k2, fun b hb => hF b ((k4 b).2 (.inr hb))⟩
theorem Lent.pt {g : Nat} {T : TypeId} {cs : List Value} {σb h : HF} {Bs : List Asn} (hl : Lent σ σb h (Kw.pt g T cs :: Bs)) (hs : Sub σ σb) : σb g = some (.cells cs.toArray T (0, 0)) ∧ Lent σ σb h Bs := by
  obtain ⟨F, ⟨F1, F2, k1, k2, k3, k4⟩, hF⟩ := hl
  exact ⟨by rw [hF g ((k4 g).2 (.inl ((k1.2 g).2 rfl)))]; exact k1.1, F2, k2, fun b hb => hF b ((k4 b).2 (.inr hb))⟩
open Classical in
theorem St.lend {P : Program} {Bs : List Asn} (hS : St e σ w (Bs ++ (A ++ B))) :
    ∃ σb, Sub σ σb ∧ Lent σ σb (hf w) Bs ∧ ∀ {f : FuncId} {args : Array Value} {R : Value → HF → List Asn → Prop}, Law P f args σb w A R → (∀ v σ' A', R v σ' A' → AllFlat A') →
      Calls P f args w fun en w' => ∃ v, en = .returned v ∧ ∃ σ' σc A', Sub σ σ' ∧ St e σ' w' (Bs ++ (A' ++ B)) ∧ R v σc A' := by
  have hS' : St e σ w ((Bs ++ A) ++ B) := by rw [List.append_assoc]; exact hS
  obtain ⟨F1, k1, k2, k⟩ := hS'.upd
  obtain ⟨FB, FA, b1, a1, dj, hu⟩ := Own.split k1
  let σb : HF := fun b => if FB b then w.heap[b]? else σ b
  have hsb : Sub σ σb := by
    intro b o hb
    have : ¬ FB b := fun h => k2 b o hb ((hu b).2 (.inl h))
    simp only [σb, this, if_false]; exact hb
  refine ⟨σb, hsb, ⟨FB, b1, fun b hb => by simp only [σb, hb, if_true]; rfl⟩, ?_⟩
  intro f args R hspec hflat
  have hpre : Pre σb w A FA := by
    refine ⟨a1.mono hsb, ?_, ?_⟩
    · intro b o hb
      by_cases h1 : FB b
      · simpa [σb, h1] using hb
      · simp only [σb, h1, if_false] at hb; exact hS.ro b o hb
    · intro b o hb h2
      by_cases h1 : FB b
      · exact dj b h1 h2
      · simp only [σb, h1, if_false] at hb; exact k2 b o hb ((hu b).2 (.inr h2))
  refine Calls.mono (hspec FA hpre) ?_
  rintro en w' ⟨v, rfl, σc, A', hs, hR⟩
  obtain ⟨F', hO', hF', hσ'⟩ := hs.own
  let σ' : HF := fun b => if FB b then none else σc b
  have hss : Sub σ σ' := by
    intro b o hb
    have h1 : ¬ FB b := fun h => k2 b o hb ((hu b).2 (.inl h))
    simp only [σ', h1, if_false]
    exact hs.sub b o (hsb b o hb)
  have hsc : ∀ b o, σ' b = some o → ¬ FB b ∧ σc b = some o := by
    intro b o hb
    by_cases h1 : FB b
    · simp [σ', h1] at hb
    · simp only [σ', h1, if_false] at hb; exact ⟨h1, hb⟩
  have hFBlt : ∀ b, FB b → b < w.heap.size := fun b hb => by obtain ⟨o, ho⟩ := b1.dom b hb; exact heap_lt ho
  have hF'B : ∀ b, FB b → ¬ F' b := fun b h1 h2 => by
    rcases hF' b h2 with h3 | h3
    · exact dj b h1 h3
    · have := hFBlt b h1; have h3' : w.heap.size ≤ b := h3; omega
  refine ⟨v, rfl, σ', σc, A', hss, ?_, hR⟩
  have hown : Own σ' (hf w') (Bs ++ A') (fun b => FB b ∨ F' b) := by
    refine Own.join ?_ (Own.flat (hflat _ _ _ hR) hO') hF'B
    exact (b1.loc (h' := hf w') fun b hb => hs.same b (hFBlt b hb) fun h2 => dj b hb h2).mono hss
  have := k w' σ' (Bs ++ A') (fun b => FB b ∨ F' b) hs.os hs.tape hs.output hs.size
    (fun b hb hn => hs.same b hb fun h2 => hn ((hu b).2 (.inr h2))) hss ?_ ?_ hown ?_ ?_
  · rw [← List.append_assoc]; exact this
  · intro b o hb
    obtain ⟨h1, h2⟩ := hsc b o hb
    rcases hs.news b o h2 with h3 | h3 | h3
    · have h3' : σb b = some o := h3
      simp only [σb, h1, if_false] at h3'; exact .inl h3'
    · exact .inr (.inl ((hu b).2 (.inr h3)))
    · exact .inr (.inr h3)
  · intro b o hb
    exact hs.ro b o (hsc b o hb).2
  · rintro b (h1 | h1)
    · exact .inl ((hu b).2 (.inl h1))
    · rcases hF' b h1 with h2 | h2
      · exact .inl ((hu b).2 (.inr h2))
      · exact .inr h2
  · rintro b o hb (h1 | h1)
    · exact (hsc b o hb).1 h1
    · exact hσ' b o (hsc b o hb).2 h1
end

/-! ### closed facts of types, in the form in which the kernel tells them -/
theorem TyI.of {P : Program} {t : TypeId} {size bytes : Nat} {z : Option Value} (h : (P.info? t).map (fun i => (i.zero, i.size, i.bytes)) = some (z, size, bytes)) : TyI P t size bytes z := by
  cases hi : P.info? t with
  | none => rw [hi] at h; cases h
  | some i => rw [hi] at h; simp at h; exact ⟨i, hi, h.2.1, h.2.2, h.1⟩
def fldOf (P : Program) (s : TypeId) (f : Nat) : Option (Nat × TypeId) := match P.underlying s with
  | some (.struct fs) => (fs[f]?).map fun fd => (fd.offset, fd.type)
  | _ => none
theorem FldV.of {P : Program} {s : TypeId} {f off : Nat} {ft : TypeId} (h : fldOf P s f = some (off, ft)) : FldV P s f ft off := by
  unfold fldOf at h
  split at h
  · rename_i fs hs
    cases hf : fs[f]? with
    | none => rw [hf] at h; cases h
    | some fd => rw [hf] at h; simp at h; exact ⟨fs, fd, hs, hf, h.1, h.2⟩
  · cases h
theorem FldI.of {P : Program} {s : TypeId} {f off : Nat} {ft : TypeId} {n bytes : Nat} {z : Option Value} (h : fldOf P s f = some (off, ft)) (ht : TyI P ft (n + 1) bytes z) : FldI P s f off := by
  obtain ⟨fs, fd, h1, h2, h3, rfl⟩ := FldV.of h
  exact ⟨fs, fd, n, h1, h2, h3, fun w => ht.size w⟩
def aggOf (P : Program) (t : TypeId) : Option Bool := (P.underlying t).map fun d => match d with
  | .struct _ | .array _ _ => true
  | _ => false
theorem IsAgg.of {P : Program} {t : TypeId} {b : Bool} (h : aggOf P t = some b) : IsAgg P t b := by
  unfold aggOf at h
  cases hd : P.underlying t with
  | none => rw [hd] at h; cases h
  | some d => rw [hd] at h; simp at h; exact ⟨d, hd, h⟩
theorem Go1.of {P : Program} {f : FuncId} (h : (P.funcs[f]?).map (fun fn => ((fn.name == "runtime.NumGoroutine"), fn.body.isNone)) = some (false, false)) : Go1 P f := by
  cases hf : P.funcs[f]? with
  | none => rw [hf] at h; cases h
  | some fn => rw [hf] at h; simp only [Option.map_some, Option.some.injEq, Prod.mk.injEq] at h; exact ⟨fn, hf, h.1, h.2⟩
end Go.Kw
