/- A small separation logic over the machine's heap: what is read for good, what is owned, and the frame rule. Conditions: none. -/
import Derived.Test.YtocknibhajihmaaKwA
set_option linter.unusedVariables false
namespace Go.Kw

abbrev HF := Nat → Option Obj
def hf (w : World) : HF := fun b => w.heap[b]?
def Sub (σ σ' : HF) : Prop := ∀ b o, σ b = some o → σ' b = some o
theorem Sub.refl (σ : HF) : Sub σ σ := fun _ _ h => h
theorem Sub.trans {a b c : HF} (h : Sub a b) (k : Sub b c) : Sub a c := fun x o hx => k x o (h x o hx)

/-- The cells 'cs' lie in 'l' from place 'o' on. -/
def Win (l : List Value) (o : Nat) (cs : List Value) : Prop := ∀ j v, cs[j]? = some v → l[o + j]? = some v
theorem Win.sub {l : List Value} {o : Nat} {a m r : List Value} (h : Win l o (a ++ m ++ r)) : Win l (o + a.length) m := by
  intro j v hj
  have hlt : j < m.length := by
    rcases Nat.lt_or_ge j m.length with h1 | h1
    · exact h1
    · simp [List.getElem?_eq_none h1] at hj
  have := h (a.length + j) v (by
    rw [List.append_assoc, List.getElem?_append_right (by omega), Nat.add_sub_cancel_left, List.getElem?_append_left hlt]; exact hj)
  rwa [Nat.add_assoc]
theorem Win.split {l : List Value} {o : Nat} {cs : List Value} (h : Win l o cs) (hlt : cs ≠ [] ) : o + cs.length ≤ l.length := by
  have hl : 0 < cs.length := List.length_pos_iff.mpr hlt
  have := h (cs.length - 1) (cs[cs.length - 1]) (List.getElem?_eq_getElem (by omega))
  have h2 : o + (cs.length - 1) < l.length := by
    rcases Nat.lt_or_ge (o + (cs.length - 1)) l.length with h1 | h1
    · exact h1
    · simp [List.getElem?_eq_none h1] at this
  omega
theorem Win.eq {l : List Value} {o : Nat} {cs : List Value} (h : Win l o cs) (hb : o + cs.length ≤ l.length) : (l.drop o).take cs.length = cs := by
  apply List.ext_getElem?
  intro j
  rw [List.getElem?_take]
  split
  · rename_i hj
    rw [List.getElem?_drop, h j _ (List.getElem?_eq_getElem hj), List.getElem?_eq_getElem hj]
  · rename_i hj
    rw [List.getElem?_eq_none (by omega)]
theorem win_mid (a m r : List Value) : Win (a ++ m ++ r) a.length m := by
  have : Win (a ++ m ++ r) 0 (a ++ m ++ r) := fun j v h => by simpa using h
  simpa using this.sub
theorem Win.mono {l l' : List Value} {o : Nat} {cs : List Value} (h : Win l o cs) (k : ∀ j, o ≤ j → j < o + cs.length → l'[j]? = l[j]?) : Win l' o cs := by
  intro j v hj
  have hlt : j < cs.length := by
    rcases Nat.lt_or_ge j cs.length with h1 | h1
    · exact h1
    · simp [List.getElem?_eq_none h1] at hj
  rw [k (o + j) (by omega) (by omega)]
  exact h j v hj

/-! ### assertions on owned memory -/
structure Asn where
  p : HF → HF → (Nat → Prop) → Prop
  mono : ∀ {σ σ' h F}, Sub σ σ' → p σ h F → p σ' h F
  loc : ∀ {σ h h' F}, (∀ b, F b → h' b = h b) → p σ h F → p σ h' F
  dom : ∀ {σ h F}, p σ h F → ∀ b, F b → ∃ o, h b = some o

def Own (σ h : HF) : List Asn → (Nat → Prop) → Prop
  | [], F => ∀ b, ¬ F b
  | a :: r, F => ∃ F1 F2, a.p σ h F1 ∧ Own σ h r F2 ∧ (∀ b, F1 b → ¬ F2 b) ∧ ∀ b, F b ↔ F1 b ∨ F2 b

theorem Own.mono {σ σ' h : HF} (hs : Sub σ σ') : ∀ {A : List Asn} {F : Nat → Prop}, Own σ h A F → Own σ' h A F
  | [], _, k => k
  | a :: _, _, ⟨F1, F2, k1, k2, k3, k4⟩ => ⟨F1, F2, a.mono hs k1, Own.mono hs k2, k3, k4⟩
theorem Own.loc {σ h h' : HF} : ∀ {A : List Asn} {F : Nat → Prop}, (∀ b, F b → h' b = h b) → Own σ h A F → Own σ h' A F
  | [], _, _, k => k
  | a :: _, _, hl, ⟨F1, F2, k1, k2, k3, k4⟩ => ⟨F1, F2, a.loc (fun b hb => hl b ((k4 b).2 (.inl hb))) k1, Own.loc (fun b hb => hl b ((k4 b).2 (.inr hb))) k2, k3, k4⟩
theorem Own.dom {σ h : HF} : ∀ {A : List Asn} {F : Nat → Prop}, Own σ h A F → ∀ b, F b → ∃ o, h b = some o
  | [], _, k, b, hb => (k b hb).elim
  | a :: _, _, ⟨F1, F2, k1, k2, _, k4⟩, b, hb => (k4 b).1 hb |>.elim (fun h1 => a.dom k1 b h1) (fun h2 => Own.dom k2 b h2)
theorem Own.split {σ h : HF} : ∀ {A B : List Asn} {F : Nat → Prop}, Own σ h (A ++ B) F → ∃ F1 F2, Own σ h A F1 ∧ Own σ h B F2 ∧ (∀ b, F1 b → ¬ F2 b) ∧ ∀ b, F b ↔ F1 b ∨ F2 b
  | [], B, F, k => ⟨fun _ => False, F, fun _ h => h, k, fun _ h => h.elim, fun b => by simp⟩
  | a :: A, B, F, ⟨F1, F2, k1, k2, k3, k4⟩ => by
    obtain ⟨G1, G2, g1, g2, g3, g4⟩ := Own.split (A := A) k2
    refine ⟨fun b => F1 b ∨ G1 b, G2, ⟨F1, G1, k1, g1, fun b h1 h2 => k3 b h1 ((g4 b).2 (.inl h2)), fun b => Iff.rfl⟩, g2, ?_, ?_⟩
    · rintro b (h1 | h1) h2
      · exact k3 b h1 ((g4 b).2 (.inr h2))
      · exact g3 b h1 h2
    · intro b; rw [k4 b, g4 b, or_assoc]
theorem Own.join {σ h : HF} : ∀ {A B : List Asn} {F1 F2 : Nat → Prop}, Own σ h A F1 → Own σ h B F2 → (∀ b, F1 b → ¬ F2 b) → Own σ h (A ++ B) (fun b => F1 b ∨ F2 b)
  | [], B, F1, F2, k1, k2, _ => by
    have : (fun b => F1 b ∨ F2 b) = F2 := by funext b; simp [k1 b]
    rw [this]; exact k2
  | a :: A, B, F1, F2, ⟨G1, G2, g1, g2, g3, g4⟩, k2, k3 => by
    refine ⟨G1, fun b => G2 b ∨ F2 b, g1, Own.join g2 k2 (fun b h1 => k3 b ((g4 b).2 (.inr h1))), ?_, ?_⟩
    · rintro b h1 (h2 | h2)
      · exact g3 b h1 h2
      · exact k3 b ((g4 b).2 (.inl h1)) h2
    · intro b; simp only [g4 b, or_assoc]

def pull : Nat → List Asn → Option (Asn × List Asn)
  | _, [] => none
  | 0, a :: r => some (a, r)
  | n + 1, a :: r => match pull n r with
    | some (x, r') => some (x, a :: r')
    | none => none
theorem Own.pull {σ h : HF} : ∀ {i : Nat} {A : List Asn} {a : Asn} {B : List Asn} {F : Nat → Prop}, pull i A = some (a, B) → Own σ h A F → Own σ h (a :: B) F
  | 0, x :: A, a, B, F, e, k => by simp [Kw.pull] at e; obtain ⟨rfl, rfl⟩ := e; exact k
  | i + 1, x :: A, a, B, F, e, ⟨F1, F2, k1, k2, k3, k4⟩ => by
    simp only [Kw.pull] at e
    cases hp : Kw.pull i A with
    | none => rw [hp] at e; cases e
    | some y =>
      obtain ⟨a', B'⟩ := y
      rw [hp] at e
      simp at e
      obtain ⟨rfl, rfl⟩ := e
      obtain ⟨G1, G2, g1, g2, g3, g4⟩ := Own.pull hp k2
      refine ⟨G1, fun b => F1 b ∨ G2 b, g1, ⟨F1, G2, k1, g2, fun b h1 h2 => k3 b h1 ((g4 b).2 (.inr h2)), fun b => Iff.rfl⟩, ?_, ?_⟩
      · rintro b h1 (h2 | h2)
        · exact k3 b h2 ((g4 b).2 (.inl h1))
        · exact g3 b h1 h2
      · intro b; rw [k4 b, g4 b]; exact or_left_comm

/-! ### the state of a walk -/
structure En where
  w : World
  s : HF
  F : Nat → Prop

structure St (e : En) (σ : HF) (w : World) (A : List Asn) : Prop where
  os : w.os = e.w.os
  tape : w.tape = e.w.tape
  output : w.output = e.w.output
  size : e.w.heap.size ≤ w.heap.size
  same : ∀ b, b < e.w.heap.size → ¬ e.F b → w.heap[b]? = e.w.heap[b]?
  sub : Sub e.s σ
  news : ∀ b o, σ b = some o → e.s b = some o ∨ e.F b ∨ e.w.heap.size ≤ b
  ro : ∀ b o, σ b = some o → w.heap[b]? = some o
  own : ∃ F, Own σ (hf w) A F ∧ (∀ b, F b → e.F b ∨ e.w.heap.size ≤ b) ∧ ∀ b o, σ b = some o → ¬ F b

theorem heap_lt {w : World} {b : Nat} {o : Obj} (h : w.heap[b]? = some o) : b < w.heap.size := (Array.getElem?_eq_some_iff.1 h).1

/-- The frame rule. -/
theorem St.upd {e : En} {σ : HF} {w : World} {Ap B : List Asn} (h : St e σ w (Ap ++ B)) :
    ∃ F1, Own σ (hf w) Ap F1 ∧ (∀ b o, σ b = some o → ¬ F1 b) ∧
      ∀ (w' : World) (σ' : HF) (A' : List Asn) (F1' : Nat → Prop), w'.os = w.os → w'.tape = w.tape → w'.output = w.output → w.heap.size ≤ w'.heap.size →
        (∀ b, b < w.heap.size → ¬ F1 b → w'.heap[b]? = w.heap[b]?) → Sub σ σ' → (∀ b o, σ' b = some o → σ b = some o ∨ F1 b ∨ w.heap.size ≤ b) →
        (∀ b o, σ' b = some o → w'.heap[b]? = some o) → Own σ' (hf w') A' F1' → (∀ b, F1' b → F1 b ∨ w.heap.size ≤ b) → (∀ b o, σ' b = some o → ¬ F1' b) →
        St e σ' w' (A' ++ B) := by
  obtain ⟨F, hO, hF, hσ⟩ := h.own
  obtain ⟨F1, F2, k1, k2, k3, k4⟩ := Own.split hO
  refine ⟨F1, k1, fun b o hb h1 => hσ b o hb ((k4 b).2 (.inl h1)), ?_⟩
  intro w' σ' A' F1' os tp ou sz sm sb nw ro ow fr dj
  have hlt2 : ∀ b, F2 b → b < w.heap.size := fun b hb => by
    obtain ⟨o, ho⟩ := k2.dom b hb
    exact heap_lt ho
  have hlt1 : ∀ b, F1 b → b < w.heap.size := fun b hb => by
    obtain ⟨o, ho⟩ := k1.dom b hb
    exact heap_lt ho
  have k2' : Own σ' (hf w') B F2 := (k2.loc (h' := hf w') fun b hb => sm b (hlt2 b hb) fun h1 => k3 b h1 hb).mono sb
  refine ⟨os.trans h.os, tp.trans h.tape, ou.trans h.output, Nat.le_trans h.size sz, ?_, h.sub.trans sb, ?_, ro, ?_⟩
  · intro b hb hn
    rw [sm b (Nat.lt_of_lt_of_le hb h.size) (fun h1 => (hF b ((k4 b).2 (.inl h1))).elim hn (by omega)), h.same b hb hn]
  · intro b o hb
    rcases nw b o hb with h1 | h1 | h1
    · exact h.news b o h1
    · exact (hF b ((k4 b).2 (.inl h1))).elim (fun x => .inr (.inl x)) (fun x => .inr (.inr x))
    · exact .inr (.inr (Nat.le_trans h.size h1))
  · refine ⟨fun b => F1' b ∨ F2 b, Own.join ow k2' ?_, ?_, ?_⟩
    · intro b h1 h2
      rcases fr b h1 with h3 | h3
      · exact k3 b h3 h2
      · have := hlt2 b h2; omega
    · rintro b (h1 | h1)
      · rcases fr b h1 with h3 | h3
        · exact hF b ((k4 b).2 (.inl h3))
        · exact .inr (Nat.le_trans h.size h3)
      · exact hF b ((k4 b).2 (.inr h1))
    · rintro b o hb (h1 | h1)
      · exact dj b o hb h1
      · rcases nw b o hb with h3 | h3 | h3
        · exact hσ b o h3 ((k4 b).2 (.inr h1))
        · exact k3 b h3 h1
        · have := hlt2 b h1; omega

theorem St.pull {e : En} {σ : HF} {w : World} {A : List Asn} {i : Nat} {a : Asn} {B : List Asn} (h : St e σ w A) (hp : Kw.pull i A = some (a, B)) : St e σ w (a :: B) :=
  { h with own := let ⟨F, k, r⟩ := h.own; ⟨F, k.pull hp, r⟩ }

theorem St.drop {e : En} {σ : HF} {w : World} {a : Asn} {B : List Asn} (h : St e σ w (a :: B)) : St e σ w B := by
  obtain ⟨F, ⟨F1, F2, k1, k2, k3, k4⟩, hF, hσ⟩ := h.own
  exact { h with own := ⟨F2, k2, fun b hb => hF b ((k4 b).2 (.inr hb)), fun b o ho hb => hσ b o ho ((k4 b).2 (.inr hb))⟩ }

theorem St.drewN {e : En} {σ : HF} {w : World} {A : List Asn} (h : St e σ w A) (m : Nat) : St e σ { w with drawn := w.drawn + m } A :=
  ⟨h.os, h.tape, h.output, h.size, h.same, h.sub, h.news, h.ro, h.own⟩

/-- At the entry of a function. -/
structure Pre (σ : HF) (w : World) (A : List Asn) (F : Nat → Prop) : Prop where
  own : Own σ (hf w) A F
  ro : ∀ b o, σ b = some o → w.heap[b]? = some o
  dj : ∀ b o, σ b = some o → ¬ F b

theorem Pre.st {σ : HF} {w : World} {A : List Asn} {F : Nat → Prop} (h : Pre σ w A F) : St ⟨w, σ, F⟩ σ w A :=
  ⟨rfl, rfl, rfl, Nat.le_refl _, fun _ _ _ => rfl, Sub.refl _, fun _ _ hb => .inl hb, h.ro, F, h.own, fun _ hb => .inl hb, h.dj⟩

/-- What a function is good for: started with what is read for good in σ and what it owns in A, it returns. -/
def Law (P : Program) (f : FuncId) (args : Array Value) (σ : HF) (w : World) (A : List Asn) (R : Value → HF → List Asn → Prop) : Prop :=
  ∀ F, Pre σ w A F → Calls P f args w fun en w' => ∃ v, en = .returned v ∧ ∃ σ' A', St ⟨w, σ, F⟩ σ' w' A' ∧ R v σ' A'

theorem Law.mono {P : Program} {f : FuncId} {args : Array Value} {σ : HF} {w : World} {A : List Asn} {R R' : Value → HF → List Asn → Prop} (h : Law P f args σ w A R)
    (k : ∀ v σ' A', R v σ' A' → R' v σ' A') : Law P f args σ w A R' :=
  fun F hF => Calls.mono (h F hF) fun _ _ ⟨v, hv, σ', A', hs, hr⟩ => ⟨v, hv, σ', A', hs, k _ _ _ hr⟩

def BP (P : Program) (fn : Func) (e : En) (R : Value → HF → List Asn → Prop) : Exit → Act → World → Prop :=
  bodyPost P fn fun en w' => ∃ v, en = .returned v ∧ ∃ σ' A', St e σ' w' A' ∧ R v σ' A'

theorem Law.intro {P : Program} {f : FuncId} {fn : Func} {c : Code} {args : Array Value} {σ : HF} {w : World} {A : List Asn} {R : Value → HF → List Asn → Prop} (hf : P.funcs[f]? = some fn) (hb : fn.body = some c)
    (L : List (Nat × Value)) (hn : args.size ≤ fn.ntmps) (hL : ∀ t v, lk L t = some v → args[t]? = some v)
    (k : ∀ e a, St e σ w A → Fr fn.ntmps a L → c.wp P (BP P fn e R) a w) : Law P f args σ w A R :=
  fun F hF => calls_of_wp hf hb (k _ _ hF.st (Fr.enter args fn.ntmps L hn hL))

theorem allLk_args {args : List Value} {L : List (Nat × Value)} (h : ∀ p ∈ L, args[p.1]? = some p.2) : ∀ t v, lk L t = some v → args.toArray[t]? = some v := by
  induction L with
  | nil => intro t v hl; simp [lk] at hl
  | cons p r ih =>
    obtain ⟨t0, v0⟩ := p
    intro t v hl
    simp only [lk] at hl
    cases e : Nat.beq t0 t with
    | true =>
      have e' := Nat.eq_of_beq_eq_true e
      subst e'
      simp at hl
      subst hl
      simpa using h _ (List.mem_cons_self ..)
    | false => rw [e] at hl; exact ih (fun p hp => h p (List.mem_cons_of_mem _ hp)) t v hl

section
variable {P : Program} {fn : Func} {e : En} {R : Value → HF → List Asn → Prop} {n : Nat} {a : Act} {L : List (Nat × Value)} {σ : HF} {w : World} {A : List Asn}
theorem ret0 {ex : Exit} (hx : ex = .ret ∨ ex = .normal) (hF : Fr n a L) (hr : fn.results = #[]) (hS : St e σ w A) (h : R (.tuple #[]) σ A) : BP P fn e R ex a w := by
  rcases hx with rfl | rfl <;> exact ⟨hF.d, .tuple #[], by simp [results, hr], _, rfl, σ, A, hS, h⟩
theorem ret1 {t : Nat} {v : Value} (hF : Fr n a L) (hr : fn.results = #[.tmp t]) (ht : lk L t = some v) (hS : St e σ w A) (h : R v σ A) : BP P fn e R .ret a w := by
  refine ⟨hF.d, v, ?_, _, rfl, σ, A, hS, h⟩
  have := hF.g t v ht
  simp [results, hr, this]
theorem ret2 {t u : Nat} {v v2 : Value} (hF : Fr n a L) (hr : fn.results = #[.tmp t, .tmp u]) (ht : lk L t = some v) (hu : lk L u = some v2) (hS : St e σ w A) (h : R (.tuple #[v, v2]) σ A) : BP P fn e R .ret a w := by
  refine ⟨hF.d, .tuple #[v, v2], ?_, _, rfl, σ, A, hS, h⟩
  have h1 := hF.g t v ht
  have h2 := hF.g u v2 hu
  simp [results, hr, h1, h2]
theorem ret3 {t u s : Nat} {v v2 v3 : Value} (hF : Fr n a L) (hr : fn.results = #[.tmp t, .tmp u, .tmp s]) (ht : lk L t = some v) (hu : lk L u = some v2) (hs : lk L s = some v3) (hS : St e σ w A) (h : R (.tuple #[v, v2, v3]) σ A) : BP P fn e R .ret a w := by
  refine ⟨hF.d, .tuple #[v, v2, v3], ?_, _, rfl, σ, A, hS, h⟩
  have h1 := hF.g t v ht
  have h2 := hF.g u v2 hu
  have h3 := hF.g s v3 hs
  simp [results, hr, h1, h2, h3]
theorem ret4 {t u s r : Nat} {v v2 v3 v4 : Value} (hF : Fr n a L) (hr : fn.results = #[.tmp t, .tmp u, .tmp s, .tmp r]) (ht : lk L t = some v) (hu : lk L u = some v2) (hs : lk L s = some v3) (h4 : lk L r = some v4) (hS : St e σ w A) (h : R (.tuple #[v, v2, v3, v4]) σ A) : BP P fn e R .ret a w := by
  refine ⟨hF.d, .tuple #[v, v2, v3, v4], ?_, _, rfl, σ, A, hS, h⟩
  have h1 := hF.g t v ht
  have h2 := hF.g u v2 hu
  have h3 := hF.g s v3 hs
  have h4 := hF.g r v4 h4
  simp [results, hr, h1, h2, h3, h4]
end

/-! ### calls -/
/-- A function with a Go body, under its number. -/
def Go1 (P : Program) (f : FuncId) : Prop := ∃ fn, P.funcs[f]? = some fn ∧ (fn.name == "runtime.NumGoroutine") = false ∧ fn.body.isNone = false

theorem run_callFunc {P : Program} {f : FuncId} (h : Go1 P f) (args : Array Value) (w : World) : (callFunc f args).run P w = .ok (.enter f args) w := by
  obtain ⟨fn, hf, hn, hb⟩ := h
  have hn' : ¬ fn.name = "runtime.NumGoroutine" := by simpa using hn
  have hb' : ¬ fn.body = none := by intro h; simp [h] at hb
  simp [callFunc, hf, hn', hb']

def evs (L : List (Nat × Value)) : List Operand → Option (List Value)
  | [] => some []
  | x :: r => match ev L x, evs L r with
    | some v, some vs => some (v :: vs)
    | _, _ => none
theorem evs_map {L : List (Nat × Value)} {ρ : Operand → Value} (hρ : Ag ρ L) : ∀ {xs : List Operand} {vs : List Value}, evs L xs = some vs → xs.map ρ = vs
  | [], vs, h => by simp [evs] at h; simp [h]
  | x :: r, vs, h => by
    simp only [evs] at h
    cases h1 : ev L x with
    | none => simp [h1] at h
    | some v =>
      cases h2 : evs L r with
      | none => simp [h1, h2] at h
      | some vs' =>
        simp [h1, h2] at h
        subst h
        simp [hρ x v h1, evs_map hρ h2]

section
variable {P : Program} {L : List (Nat × Value)} {w : World} {d : Option Nat} {ty : TypeId} {pos : String} {af : Array Edge} {g : Option (Nat × Bool)}
theorem e_call {f : FuncId} {c : Operand} {xs : List Operand} {ats : Array TypeId} {fst cap : List Value} {vs : List Value} {R : Value → World → Prop} (hc : ev L c = some (.func (.func f) fst.toArray cap.toArray)) (hx : evs L xs = some vs) (hg : Go1 P f)
    (h : Calls P f (fst ++ vs ++ cap).toArray w fun en w' => ∃ v, en = .returned v ∧ R v w') :
    Ef P L ⟨d, .call { callee := .value c, args := xs.toArray, argTypes := ats }, ty, pos, af, g⟩ w R := by
  intro ρ hρ
  have h1 := hρ c _ hc
  have h2 := evs_map hρ hx
  unfold Does
  simp only [execOp, resolve, h1, Deferred.ofValue, List.map_toArray, h2, Sem.run_bind, Sem.run_pure, Result.andThen_ok, invoke, List.append_toArray, run_callFunc hg]
  exact h

/-- The frame around a call: what is handed over stands first. -/
theorem St.call {e : En} {σ : HF} {A B : List Asn} {f : FuncId} {args : Array Value} {R : Value → HF → List Asn → Prop} (hS : St e σ w (A ++ B)) (h : Law P f args σ w A R) :
    Calls P f args w fun en w' => ∃ v, en = .returned v ∧ ∃ σ' A', Sub σ σ' ∧ St e σ' w' (A' ++ B) ∧ R v σ' A' := by
  obtain ⟨F1, hO, hd, k⟩ := hS.upd
  refine Calls.mono (h F1 ⟨hO, hS.ro, hd⟩) ?_
  rintro en w' ⟨v, rfl, σ', A', hs, hR⟩
  obtain ⟨F', hO', hF', hσ'⟩ := hs.own
  exact ⟨v, rfl, σ', A', hs.sub, k w' σ' A' F' hs.os hs.tape hs.output hs.size hs.same hs.sub hs.news hs.ro hO' hF' hσ', hR⟩
end

end Go.Kw
