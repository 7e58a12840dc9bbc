/- Memory of one's own: boxes, rows; making, reading, writing, appending, handing on for good, lending. Conditions: none. -/
import Derived.Test.YtocknibhajihmaaKwC
set_option linter.unusedVariables false
set_option linter.unusedSimpArgs false
namespace Go.Kw

def pt (g : Nat) (T : TypeId) (cs : List Value) : Asn where
  p _ h F := h g = some (.cells cs.toArray T (0, 0)) ∧ ∀ b, F b ↔ b = g
  mono _ h := h
  loc k h := ⟨(k _ ((h.2 _).2 rfl)).trans h.1, h.2⟩
  dom h b hb := by have := (h.2 b).1 hb; subst this; exact ⟨_, h.1⟩

def Ow {α : Type} (kd : Kd α) (e : TypeId) (v : Value) (xs : List α) : Asn where
  p σ h F := (∃ A, v = .slice A 0 0 ∧ xs = [] ∧ ∀ b, ¬ F b) ∨
    ∃ g off cap cur fr, v = .slice (some ⟨g, off, none⟩) xs.length cap ∧ h g = some (.cells cur e fr) ∧ (∀ b, F b ↔ b = g) ∧ xs.length ≤ cap ∧ cap ≤ maxLen ∧
      off + cap * kd.sz ≤ cur.size ∧ (∀ j, off ≤ j → j < off + cap * kd.sz → ¬ (fr.1 ≤ j ∧ j < fr.2)) ∧ Rows kd σ cur.toList off xs
  mono hs h := by
    rcases h with h | ⟨g, off, cap, cur, fr, h1, h2, h3, h4, h5, h6, h7, h8⟩
    · exact .inl h
    · exact .inr ⟨g, off, cap, cur, fr, h1, h2, h3, h4, h5, h6, h7, h8.mono hs⟩
  loc k h := by
    rcases h with h | ⟨g, off, cap, cur, fr, h1, h2, h3, h4⟩
    · exact .inl h
    · exact .inr ⟨g, off, cap, cur, fr, h1, (k _ ((h3 _).2 rfl)).trans h2, h3, h4⟩
  dom h b hb := by
    rcases h with ⟨A, _, _, h⟩ | ⟨g, off, cap, cur, fr, h1, h2, h3, h4⟩
    · exact (h b hb).elim
    · have := (h3 b).1 hb; subst this; exact ⟨_, h2⟩

theorem Own.one {σ h : HF} {a : Asn} {F : Nat → Prop} : Own σ h [a] F ↔ a.p σ h F := by
  constructor
  · rintro ⟨F1, F2, h1, h2, h3, h4⟩
    have : F = F1 := by funext b; rw [eq_iff_iff, h4 b]; simp [h2 b]
    rw [this]; exact h1
  · intro h1
    exact ⟨F, fun _ => False, h1, fun _ h => h, fun _ _ h => h, fun b => by simp⟩
theorem Own.nil (σ h : HF) : Own σ h [] (fun _ => False) := fun _ h => h

/-- New blocks. -/
theorem St.new {e : En} {σ : HF} {w w' : World} {B A' : List Asn} {F1' : Nat → Prop} (h : St e σ w B) (os : w'.os = w.os) (tp : w'.tape = w.tape) (ou : w'.output = w.output) (sz : w.heap.size ≤ w'.heap.size)
    (sm : ∀ b, b < w.heap.size → w'.heap[b]? = w.heap[b]?) (ow : Own σ (hf w') A' F1') (fr : ∀ b, F1' b → w.heap.size ≤ b) : St e σ w' (A' ++ B) := by
  obtain ⟨F1, k1, k2, k⟩ := St.upd (Ap := []) (B := B) h
  refine k w' σ A' F1' os tp ou sz (fun b hb _ => sm b hb) (Sub.refl _) (fun b o hb => .inl hb) ?_ ow (fun b hb => .inr (fr b hb)) ?_
  · intro b o hb
    rw [sm b (heap_lt (h.ro b o hb))]
    exact h.ro b o hb
  · intro b o hb h1
    have := heap_lt (h.ro b o hb)
    have := fr b h1
    omega
theorem St.alloc {e : En} {σ : HF} {w : World} {B : List Asn} (h : St e σ w B) (T : TypeId) (cs : List Value) : St e σ (w.alloc (.cells cs.toArray T)) (pt w.heap.size T cs :: B) := by
  refine St.new (A' := [_]) (F1' := fun b => b = w.heap.size) h rfl rfl rfl (by simp) (fun b hb => heap_alloc_old w _ hb) ?_ (fun b hb => by omega)
  exact Own.one.2 ⟨heap_alloc_new w _, fun b => Iff.rfl⟩

/-- One block of one's own that is written. -/
theorem St.setRow {e : En} {σ : HF} {w : World} {a a' : Asn} {B : List Asn} {g : Nat} {cur cur' : Array Value} {T : TypeId} {fr : Nat × Nat} (h : St e σ w (a :: B))
    (ha : ∀ F, a.p σ (hf w) F → (w.heap[g]? = some (.cells cur T fr)) ∧ ∀ b, F b ↔ b = g) (ha' : ∀ h' : HF, h' g = some (.cells cur' T fr) → a'.p σ h' (fun b => b = g)) :
    St e σ (w.setRow g cur') (a' :: B) := by
  obtain ⟨F1, k1, k2, k⟩ := St.upd (Ap := [a]) (B := B) h
  obtain ⟨hg, hF⟩ := ha F1 (Own.one.1 k1)
  refine k (w.setRow g cur') σ [a'] (fun b => b = g) rfl rfl rfl (by simp [World.setRow]) ?_ (Sub.refl _) (fun b o hb => .inl hb) ?_ (Own.one.2 (ha' _ (setRow_heap w g cur cur' T fr hg))) (fun b hb => .inl ((hF b).2 hb)) ?_
  · intro b hb hn
    exact setRow_other w g b cur' fun e => hn ((hF b).2 e)
  · intro b o hb
    rw [setRow_other w g b cur' fun e => k2 b o hb ((hF b).2 e)]
    exact h.ro b o hb
  · intro b o hb hbg
    exact k2 b o hb ((hF b).2 hbg)

theorem run_store_row (P : Program) (g o : Nat) (t : TypeId) (fr : Nat × Nat) : ∀ (vs : List Value) (i : Nat) (cur : Array Value) (w : World), w.heap[g]? = some (.cells cur t fr) → o + i + vs.length ≤ cur.size → (∀ v ∈ vs, v.oneCell' = true) →
    (∀ j, o + i ≤ j → j < o + i + vs.length → ¬ (fr.1 ≤ j ∧ j < fr.2)) →
    (storeCells ⟨g, o, none⟩ vs i).run P w = .ok () (w.setRow g (cur.toList.take (o + i) ++ vs ++ cur.toList.drop (o + i + vs.length)).toArray)
  | [], i, cur, w, hg, _, _, _ => by
    simp only [storeCells, List.append_nil, List.length_nil, Nat.add_zero, List.take_append_drop, Array.toArray_toList]
    rw [setRow_self w g cur t fr hg]
    rfl
  | v :: rest, i, cur, w, hg, hl, h1, hfz => by
    have hi : o + i < cur.size := by simp at hl; omega
    have hadd : (⟨g, o, none⟩ : Addr).add i = ⟨g, o + i, none⟩ := addr_add rfl i
    have hcell : w.cell? ⟨g, o + i, none⟩ = some cur[o + i] := by simp [World.cell?, hg, hi]
    have hfro : w.frozen? ⟨g, o + i, none⟩ = false := by
      have := hfz (o + i) (Nat.le_refl _) (by simp)
      obtain ⟨lo, hi'⟩ := fr
      simp [World.frozen?, hg]
      simpa using this
    have hst : (store ((⟨g, o, none⟩ : Addr).add i) v).run P w = .ok () (w.setRow g (cur.setIfInBounds (o + i) v)) := by
      rw [hadd, run_store P w _ v _ (h1 v (by simp)), hcell]
      simp [hfro, setCell_eq_setRow w g (o + i) cur t fr v hg]
    have ih := run_store_row P g o t fr rest (i + 1) (cur.setIfInBounds (o + i) v) (w.setRow g (cur.setIfInBounds (o + i) v)) (setRow_heap w g cur _ t _ hg) (by simp at hl ⊢; omega) (fun x hx => h1 x (by simp [hx]))
      (fun j h1 h2 => hfz j (by omega) (by simp at h2 ⊢; omega))
    simp only [storeCells, Sem.run_bind, hst, Result.andThen_ok, ih]
    have e1 : (w.setRow g (cur.setIfInBounds (o + i) v)).setRow g ((cur.setIfInBounds (o + i) v).toList.take (o + (i + 1)) ++ rest ++ (cur.setIfInBounds (o + i) v).toList.drop (o + (i + 1) + rest.length)).toArray
        = w.setRow g ((cur.setIfInBounds (o + i) v).toList.take (o + (i + 1)) ++ rest ++ (cur.setIfInBounds (o + i) v).toList.drop (o + (i + 1) + rest.length)).toArray := setRow_setRow w g _ _
    rw [e1]
    congr 3
    simp only [Array.toList_setIfInBounds, List.length_cons]
    have h2 : (cur.toList.set (o + i) v).take (o + (i + 1)) = cur.toList.take (o + i) ++ [v] := by
      rw [List.take_set, ← Nat.add_assoc, List.take_succ_eq_append_getElem (by simpa using hi)]
      rw [List.set_append_right _ _ (by simp; omega)]
      have : o + i - (List.take (o + i) cur.toList).length = 0 := by simp; omega
      rw [this]; rfl
    rw [h2, List.drop_set_of_lt (by omega)]
    simp [Nat.add_assoc, Nat.add_comm 1]

section
variable {P : Program} {L : List (Nat × Value)} {w : World} {d : Option Nat} {ty : TypeId} {pos : String} {af : Array Edge} {g : Option (Nat × Bool)} {e : En} {σ : HF} {A B : List Asn}

/-! ### boxes -/
theorem e_alloc {T : TypeId} {size bytes : Nat} {z : Value} {cs : List Value} (hS : St e σ w A) (hz : TyI P T size bytes (some z)) (hc : z.cells.toList = cs) :
    Ef P L ⟨d, .alloc T, ty, pos, af, g⟩ w fun v w' => ∃ b, v = .pointer (some ⟨b, 0, none⟩) ∧ St e σ w' (pt b T cs :: A) := by
  obtain ⟨i, hi, _, _, hzz⟩ := hz
  intro ρ hρ
  unfold Does
  simp only [execOp, Instr.alloc, zeroValue, typeInfo, Sem.run_bind, run_program, Result.andThen_ok, hi, hzz, Sem.run_pure, newVar, newRow, run_newObj]
  refine ⟨_, rfl, ?_⟩
  subst hc
  have := hS.alloc T z.cells.toList
  rw [Array.toArray_toList] at this
  exact this
theorem e_box {T : TypeId} {x : Operand} {u : Value} {cs : List Value} (hS : St e σ w A) (hx : ev L x = some u) (hc : u.cells.toList = cs) :
    Ef P L ⟨d, .box T x, ty, pos, af, g⟩ w fun v w' => ∃ b, v = .pointer (some ⟨b, 0, none⟩) ∧ St e σ w' (pt b T cs :: A) := by
  intro ρ hρ
  unfold Does
  simp only [execOp, hρ x _ hx, Instr.box, newVar, newRow, Sem.run_bind, run_newObj, Result.andThen_ok, Sem.run_pure]
  refine ⟨_, rfl, ?_⟩
  subst hc
  have := hS.alloc T u.cells.toList
  rw [Array.toArray_toList] at this
  exact this

theorem St.pt {b : Nat} {T : TypeId} {cs : List Value} (hS : St e σ w (pt b T cs :: B)) : w.heap[b]? = some (.cells cs.toArray T (0, 0)) := by
  obtain ⟨F, ⟨F1, F2, h1, _⟩, _⟩ := hS.own
  exact h1.1
theorem p_fldb {s : TypeId} {x : Operand} {f off o o' : Nat} {b : Nat} (hx : ev L x = some (.pointer (some ⟨b, o, none⟩))) (hf : FldI P s f off) (ho : o + off = o') :
    Pu P L ⟨d, .fieldAddr s x f, ty, pos, af, g⟩ w (.pointer (some ⟨b, o', none⟩)) := by
  subst ho
  have := p_fld (d := d) (ty := ty) (pos := pos) (af := af) (g := g) (w := w) hx hf
  rwa [addr_add rfl] at this
theorem p_idxb {t e : TypeId} {x y : Operand} {k : IntKind} {i : Int} {n sz : Nat} {b o : Nat} {bytes : Nat} {z : Option Value}
    (hx : ev L x = some (.pointer (some ⟨b, o, none⟩))) (hy : ev L y = some (.int k i)) (ht : P.underlying t = some (.array n e)) (he : TyI P e sz bytes z) (h0 : 0 ≤ i) (h1 : i < n) :
    Pu P L ⟨d, .indexAddr t x y, ty, pos, af, g⟩ w (.pointer (some ⟨b, o + i.toNat * sz, none⟩)) := by
  have := p_idxa (d := d) (ty := ty) (pos := pos) (af := af) (g := g) (w := w) hx hy ht he h0 h1
  rwa [addr_add rfl] at this

theorem p_ldb_one {i : Nat} {t T : TypeId} {x : Operand} {b o : Nat} {cs : List Value} {v : Value} (hS : St e σ w A) (hp : pull i A = some (pt b T cs, B)) (hx : ev L x = some (.pointer (some ⟨b, o, none⟩))) (ha : IsAgg P t false)
    (hc : cs[o]? = some v) : Pu P L ⟨d, .load t x, ty, pos, af, g⟩ w v := by
  refine p_load_one hx ha ?_
  have := (hS.pull hp).pt
  simp [World.cell?, this, hc]
theorem p_ldb_agg {i : Nat} {t T : TypeId} {x : Operand} {b : Nat} {l m r cs : List Value} {o size bytes : Nat} {z : Option Value} (hS : St e σ w A) (hp : pull i A = some (pt b T cs, B)) (hx : ev L x = some (.pointer (some ⟨b, o, none⟩))) (ha : IsAgg P t true)
    (ht : TyI P t size bytes z) (hc : cs = l ++ m ++ r) (ho : l.length = o) (hm : m.length = size) : Pu P L ⟨d, .load t x, ty, pos, af, g⟩ w (.agg m.toArray) := by
  subst hc ho hm
  refine p_load_cells hx ha ht ?_
  intro j v hj
  have h1 := (hS.pull hp).pt
  have h2 := win_mid l m r j v hj
  rw [addr_add rfl]
  simp only [World.cell?, h1]
  simpa using h2

theorem e_stb {i : Nat} {t T : TypeId} {x y : Operand} {b : Nat} {l m r cs cs' : List Value} {o size bytes : Nat} {z : Option Value} {u : Value} (hS : St e σ w A) (hp : pull i A = some (pt b T cs, B)) (hx : ev L x = some (.pointer (some ⟨b, o, none⟩))) (hy : ev L y = some u)
    (ht : TyI P t size bytes z) (hc : cs = l ++ m ++ r) (ho : l.length = o) (hm : m.length = size) {m' : List Value} (hu : u.cells.toList = m') (hm' : m'.length = size) (h1 : ∀ v ∈ m', v.oneCell' = true) (hn : l ++ m' ++ r = cs') :
    Ef P L ⟨none, .store t x y, ty, pos, af, g⟩ w fun v w' => St e σ w' (pt b T cs' :: B) := by
  subst hc ho hn hu
  have hS1 := hS.pull hp
  have hg := hS1.pt
  intro ρ hρ
  unfold Does
  have hsz : u.cells.size = size := by rw [← hm']; simp
  have hrow := run_store_row P b l.length T (0, 0) u.cells.toList 0 (l ++ m ++ r).toArray w hg (by simp [hm] at hm' ⊢; omega) h1 (fun j _ _ => by simp)
  simp only [execOp, hρ x _ hx, hρ y _ hy, Instr.storeAt, Instr.sureAddr, Sem.run_bind, Sem.run_pure, Result.andThen_ok, storeVar, ht.size w, hsz, ne_eq, not_true_eq_false, if_false, hrow]
  refine St.setRow (cur := (l ++ m ++ r).toArray) (T := T) (fr := (0, 0)) (g := b) hS1 (fun F hF => hF) (fun h' hh' => ⟨?_, fun _ => Iff.rfl⟩)
  rw [hh']
  simp only [Nat.add_zero]
  congr 3
  have h2 : (l ++ m ++ r).take l.length = l := by simp
  have h3 : (l ++ m ++ r).drop (l.length + u.cells.toList.length) = r := by
    rw [hm', ← hm, List.append_assoc, ← List.drop_drop]; simp
  rw [h2, h3]

/-! ### rows -/
theorem St.ow {α : Type} {kd : Kd α} {et : TypeId} {v : Value} {xs : List α} (hS : St e σ w (Ow kd et v xs :: B)) : ∃ F, (Ow kd et v xs).p σ (hf w) F := by
  obtain ⟨F, ⟨F1, F2, h1, _⟩, _⟩ := hS.own
  exact ⟨F1, h1⟩
theorem St.ow_val {α : Type} {kd : Kd α} {et : TypeId} {v : Value} {xs : List α} (hS : St e σ w (Ow kd et v xs :: B)) : ∃ ad cap, v = .slice ad xs.length cap ∧ xs.length ≤ cap := by
  obtain ⟨F, ⟨A, rfl, rfl, _⟩ | ⟨g, off, cap, cur, fr, rfl, _, _, hc, _⟩⟩ := hS.ow
  · exact ⟨A, 0, rfl, Nat.le_refl _⟩
  · exact ⟨_, cap, rfl, hc⟩

/-- The nil slice, as a row of one's own. -/
theorem St.ownNil {α : Type} (kd : Kd α) (et : TypeId) (a : Option Addr) (hS : St e σ w A) : St e σ w (Ow kd et (.slice a 0 0) [] :: A) :=
  St.new (A' := [_]) (F1' := fun _ => False) hS rfl rfl rfl (Nat.le_refl _) (fun _ _ => rfl) (Own.one.2 (.inl ⟨a, rfl, rfl, fun _ h => h⟩)) (fun _ h => h.elim)

theorem p_leno {α : Type} {kd : Kd α} {et t : TypeId} {i : Nat} {x : Operand} {v : Value} {xs : List α} (hS : St e σ w A) (hp : pull i A = some (Ow kd et v xs, B)) (ht : P.underlying t = some (.slice et)) (hx : ev L x = some v) :
    Pu P L ⟨d, .call { callee := .builtin .len, args := #[x], argTypes := #[t] }, ty, pos, af, g⟩ w (.int .i64 xs.length) := by
  obtain ⟨ad, cap, rfl, _⟩ := (hS.pull hp).ow_val
  exact p_len ht hx

theorem St.ow_at {α : Type} [Inhabited α] {kd : Kd α} {et : TypeId} {v : Value} {xs : List α} (hS : St e σ w (Ow kd et v xs :: B)) {i : Int} (h0 : 0 ≤ i) (h1 : i < xs.length) :
    ∃ b off cap cs, v = .slice (some ⟨b, off, none⟩) xs.length cap ∧ kd.K σ (rd xs i) cs ∧ ∀ j u, cs[j]? = some u → w.cell? ⟨b, off + i.toNat * kd.sz + j, none⟩ = some u := by
  obtain ⟨F, ⟨A, rfl, rfl, _⟩ | ⟨g, off, cap, cur, fr, rfl, hg, hF, hc, hm, hsz, hfz, hR⟩⟩ := hS.ow
  · simp at h1; omega
  · obtain ⟨cs, hk, hw⟩ := hR _ _ (rd_get h0 h1)
    refine ⟨g, off, cap, cs, rfl, hk, ?_⟩
    intro j u hj
    have h2 := hw j u hj
    have h3 : w.heap[g]? = some (.cells cur et fr) := hg
    simp only [World.cell?, h3]
    simpa using h2

/-- The address of an element of a row of one's own. -/
theorem p_idxo {α : Type} [Inhabited α] {kd : Kd α} {et t : TypeId} {n : Nat} {i : Int} {v : Value} {xs : List α} {bytes : Nat} {z : Option Value} (hS : St e σ w A) (hp : pull n A = some (Ow kd et v xs, B))
    (ht : P.underlying t = some (.slice et)) (he : TyI P et kd.sz bytes z) (h0 : 0 ≤ i) (h1 : i < xs.length) :
    ∃ b off cap, v = .slice (some ⟨b, off, none⟩) xs.length cap ∧ ∀ {L x y k w d ty pos af g}, ev L x = some v → ev L y = some (.int k i) → Pu P L ⟨d, .indexAddr t x y, ty, pos, af, g⟩ w (.pointer (some ⟨b, off + i.toNat * kd.sz, none⟩)) := by
  obtain ⟨b, off, cap, cs, rfl, hk, hc⟩ := (hS.pull hp).ow_at h0 h1
  refine ⟨b, off, cap, rfl, fun {L x y k w d ty pos af g} hx hy => ?_⟩
  intro ρ hρ
  simp [execOp, hρ x _ hx, hρ y _ hy, Instr.indexAt, asIntOf, underlying, ht, h0, h1, he.size w, addr_add]

/-- What is told of an address in a row of one's own: element i, a part of it. -/
theorem o_part {α β : Type} [Inhabited α] {kd : Kd α} {kd' : Kd β} {et : TypeId} {v0 : Value} {n ln : Nat} {i : Int} {b off cap : Nat} {xs : List α} (hS : St e σ w A) (hp : pull n A = some (Ow kd et v0 xs, B)) (hv : v0 = .slice (some ⟨b, off, none⟩) ln cap) (q : Lens kd kd') (h0 : 0 ≤ i) (h1 : i < xs.length) {o : Nat} (ho : off + i.toNat * kd.sz + q.off = o) :
    ∃ cs, kd'.K σ (q.get (rd xs i)) cs ∧ ∀ j u, cs[j]? = some u → w.cell? ((⟨b, o, none⟩ : Addr).add j) = some u := by
  obtain ⟨b', off', cap', cs, he, hk, hc⟩ := (hS.pull hp).ow_at h0 h1
  rw [hv] at he
  simp only [Value.slice.injEq, Option.some.injEq, Addr.mk.injEq, and_true, true_and] at he
  obtain ⟨⟨rfl, rfl⟩, _, rfl⟩ := he
  obtain ⟨l, m, r, rfl, hl, hm⟩ := q.hget hk
  refine ⟨m, hm, ?_⟩
  intro j u hj
  have hlt : j < m.length := (List.getElem?_eq_some_iff.1 hj).1
  have := hc (l.length + j) u (by rw [List.append_assoc, List.getElem?_append_right (by omega), Nat.add_sub_cancel_left, List.getElem?_append_left hlt]; exact hj)
  rw [addr_add rfl]
  subst ho
  rw [← hl]
  simpa [Nat.add_assoc] using this

theorem p_ldo_agg {α β : Type} [Inhabited α] {kd : Kd α} {kd' : Kd β} {et t : TypeId} {v0 : Value} {n ln : Nat} {i : Int} {b off cap : Nat} {xs : List α} {bytes : Nat} {z : Option Value} (hS : St e σ w A) (hp : pull n A = some (Ow kd et v0 xs, B)) (hv : v0 = .slice (some ⟨b, off, none⟩) ln cap) (q : Lens kd kd') (h0 : 0 ≤ i) (h1 : i < xs.length)
    {o : Nat} (ho : off + i.toNat * kd.sz + q.off = o) (ha : IsAgg P t true) (ht : TyI P t kd'.sz bytes z) :
    ∃ cs, kd'.K σ (q.get (rd xs i)) cs ∧ ∀ {L x d ty pos af g}, ev L x = some (.pointer (some ⟨b, o, none⟩)) → Pu P L ⟨d, .load t x, ty, pos, af, g⟩ w (.agg cs.toArray) := by
  obtain ⟨cs, hk, hc⟩ := o_part hS hp hv q h0 h1 ho
  exact ⟨cs, hk, fun {L x d ty pos af g} hx => p_load_cells hx ha (by rw [kd'.len hk]; exact ht) hc⟩
theorem p_ldo_one {α β : Type} [Inhabited α] {kd : Kd α} {kd' : Kd β} {et t : TypeId} {v0 : Value} {n ln : Nat} {i : Int} {b off cap : Nat} {xs : List α} (hS : St e σ w A) (hp : pull n A = some (Ow kd et v0 xs, B)) (hv : v0 = .slice (some ⟨b, off, none⟩) ln cap) (q : Lens kd kd') (h0 : 0 ≤ i) (h1 : i < xs.length)
    {o : Nat} (ho : off + i.toNat * kd.sz + q.off = o) (ha : IsAgg P t false) (hq : kd'.sz = 1) :
    ∃ v, kd'.K σ (q.get (rd xs i)) [v] ∧ ∀ {L x d ty pos af g}, ev L x = some (.pointer (some ⟨b, o, none⟩)) → Pu P L ⟨d, .load t x, ty, pos, af, g⟩ w v := by
  obtain ⟨cs, hk, hc⟩ := o_part hS hp hv q h0 h1 ho
  have hl := kd'.len hk
  rw [hq] at hl
  obtain ⟨v, rfl⟩ := List.length_eq_one_iff.1 hl
  exact ⟨v, hk, fun {L x d ty pos af g} hx => p_load_one hx ha (hc 0 v rfl)⟩

/-- A store to a part of an element of a row of one's own. -/
theorem e_sto {α β : Type} [Inhabited α] {kd : Kd α} {kd' : Kd β} {et t : TypeId} {v0 : Value} {n ln : Nat} {i : Int} {x y : Operand} {b off cap : Nat} {xs : List α} {bytes : Nat} {z : Option Value} {u : Value} {m' : List Value} {c : β} (hS : St e σ w A) (hp : pull n A = some (Ow kd et v0 xs, B)) (hv : v0 = .slice (some ⟨b, off, none⟩) ln cap) (q : Lens kd kd') (h0 : 0 ≤ i) (h1 : i < xs.length)
    {o : Nat} (ho : off + i.toNat * kd.sz + q.off = o) (hx : ev L x = some (.pointer (some ⟨b, o, none⟩))) (hy : ev L y = some u) (ht : TyI P t kd'.sz bytes z) (hu : u.cells.toList = m') (hc : kd'.K σ c m') :
    Ef P L ⟨none, .store t x y, ty, pos, af, g⟩ w fun v w' => St e σ w' (Ow kd et v0 (wr xs i (q.set (rd xs i) c)) :: B) := by
  subst hv
  have hS1 := hS.pull hp
  obtain ⟨F, ⟨A0, he, hx0, _⟩ | ⟨g', off', cap', cur, fr, he, hg, hF, hcl, hm, hsz, hfz, hR⟩⟩ := hS1.ow
  · rw [hx0] at h1; simp at h1; omega
  · simp only [Value.slice.injEq, Option.some.injEq, Addr.mk.injEq, and_true, true_and] at he
    obtain ⟨⟨rfl, rfl⟩, hln, rfl⟩ := he
    subst hln
    have hg' : w.heap[b]? = some (.cells cur et fr) := hg
    have hle : xs.length * kd.sz ≤ cap * kd.sz := Nat.mul_le_mul_right _ hcl
    obtain ⟨p, m, r, hcur, hpl, hk⟩ := rows_split hR (rd_get h0 h1) (by simp; omega)
    obtain ⟨l1, m1, r1, rfl, hl1, hm1⟩ := q.hget hk
    have hnew := q.hset hk hl1 (kd'.len hm1) hc
    have hml := kd'.len hm1
    have hml' := kd'.len hc
    have hkl := kd.len hk
    have hpos : i.toNat < xs.length := by omega
    have hmul : (i.toNat + 1) * kd.sz ≤ xs.length * kd.sz := Nat.mul_le_mul_right _ hpos
    rw [Nat.add_mul] at hmul
    have hcl2 : cur.size = p.length + (l1 ++ m1 ++ r1).length + r.length := by
      have := congrArg List.length hcur
      simpa [Nat.add_assoc] using this
    subst hu
    intro ρ hρ
    unfold Does
    have husz : u.cells.size = kd'.sz := by rw [← hml']; simp
    have hrow := run_store_row P b o et fr u.cells.toList 0 cur w hg' (by rw [hml']; simp at hkl; omega) (fun v hv => kd'.one hc v hv) (fun j h1 h2 => hfz j (by omega) (by rw [hml'] at h2; simp at hkl; omega))
    simp only [execOp, hρ x _ hx, hρ y _ hy, Instr.storeAt, Instr.sureAddr, Sem.run_bind, Sem.run_pure, Result.andThen_ok, storeVar, ht.size w, husz, ne_eq, not_true_eq_false, if_false, hrow]
    refine St.setRow (cur := cur) (T := et) (fr := fr) (g := b) hS1 (fun F' hF' => ?_) (fun h' hh' => .inr ⟨b, off, cap, _, fr, by rw [wr_length], hh', fun _ => Iff.rfl, by rw [wr_length]; exact hcl, hm, ?_, hfz, ?_⟩)
    · rcases hF' with ⟨A0, he, _⟩ | ⟨g2, off2, cap2, cur2, fr2, he, hg2, hF2, _⟩
      · injection he with _ h2 _; omega
      · simp only [Value.slice.injEq, Option.some.injEq, Addr.mk.injEq, and_true, true_and] at he
        obtain ⟨⟨rfl, rfl⟩, rfl⟩ := he
        exact ⟨hg', hF2⟩
    · simp only [Nat.add_zero, List.size_toArray, List.length_append, List.length_take, List.length_drop, Array.length_toList]
      simp at hml' hkl hcl2
      omega
    · have e0 : cur.toList = (p ++ l1) ++ (m1 ++ (r1 ++ r)) := by rw [hcur]; simp
      have e1 : cur.toList.take (o + 0) = p ++ l1 := by
        rw [e0]; exact List.take_left' (by rw [List.length_append]; omega)
      have e2 : cur.toList.drop (o + 0 + u.cells.toList.length) = r1 ++ r := by
        rw [e0, ← List.append_assoc (p ++ l1)]; exact List.drop_left' (by rw [List.length_append, List.length_append]; omega)
      have e3 : (cur.toList.take (o + 0) ++ u.cells.toList ++ cur.toList.drop (o + 0 + u.cells.toList.length)) = p ++ (l1 ++ u.cells.toList ++ r1) ++ r := by rw [e1, e2]; simp
      rw [e3]
      have hR' : Rows kd σ (p ++ (l1 ++ m1 ++ r1) ++ r) off xs := by rw [← hcur]; exact hR
      have := rows_set hR' hpl hkl hnew
      simpa [wr] using this

/-! ### what is appended -/
def Src {α : Type} (kd : Kd α) (σ : HF) (w : World) (v : Value) (ys : List α) : Prop :=
  ∃ a c news, v = .slice a ys.length c ∧ news.length = ys.length * kd.sz ∧ (∀ u ∈ news, u.oneCell' = true) ∧ Rows kd σ news 0 ys ∧ ∀ j u, news[j]? = some u → ∃ ad, a = some ad ∧ w.cell? (ad.add j) = some u

theorem rows_cells {α : Type} {kd : Kd α} {σ : HF} {l : List Value} {o : Nat} : ∀ {xs : List α}, Rows kd σ l o xs → ∃ cs, cs.length = xs.length * kd.sz ∧ (∀ u ∈ cs, u.oneCell' = true) ∧ Rows kd σ cs 0 xs ∧ Win l o cs := by
  intro xs
  induction xs generalizing o with
  | nil => intro _; exact ⟨[], by simp, by simp, Rows.nil _ _ _ _, fun j v h => by simp at h⟩
  | cons x xs ih =>
    intro h
    obtain ⟨c, hk, hw⟩ := h 0 x rfl
    have h' : Rows kd σ l (o + kd.sz) xs := by
      intro i y hi
      obtain ⟨c', hk', hw'⟩ := h (i + 1) y (by simpa using hi)
      exact ⟨c', hk', by rw [show o + kd.sz + i * kd.sz = o + (i + 1) * kd.sz by rw [Nat.add_mul]; omega]; exact hw'⟩
    obtain ⟨cs, h1, h2, h3, h4⟩ := ih h'
    have hl := kd.len hk
    refine ⟨c ++ cs, by simp [h1, hl, Nat.add_mul, Nat.add_comm], ?_, ?_, ?_⟩
    · intro u hu
      rcases List.mem_append.1 hu with hu | hu
      · exact kd.one hk u hu
      · exact h2 u hu
    · intro i y hi
      cases i with
      | zero =>
        simp at hi
        subst hi
        exact ⟨c, hk, by simpa using win_mid [] c cs⟩
      | succ i =>
        obtain ⟨c', hk', hw'⟩ := h3 i y (by simpa using hi)
        refine ⟨c', hk', ?_⟩
        intro j v hj
        have := hw' j v hj
        rw [List.getElem?_append_right (by rw [Nat.add_mul]; omega)]
        rw [← this]; congr 1; rw [Nat.add_mul]; omega
    · intro j v hj
      rw [List.getElem?_append] at hj
      split at hj
      · have := hw j v hj; simpa using this
      · rename_i hj'
        have := h4 _ v hj
        rw [← this]; congr 1; omega

theorem Sl.src {α : Type} {kd : Kd α} {v : Value} {ys : List α} (h : Sl kd σ v ys) (hS : St e σ w A) : Src kd σ w v ys := by
  obtain ⟨a, c, hv, hc, h | ⟨b, off, cur, T, fr, hA, hg, hR⟩⟩ := h
  · subst h
    exact ⟨a, c, [], hv, by simp, by simp, Rows.nil _ _ _ _, by simp⟩
  · subst hA
    obtain ⟨cs, h1, h2, h3, h4⟩ := rows_cells hR
    refine ⟨_, c, cs, hv, h1, h2, h3, ?_⟩
    intro j u hj
    refine ⟨_, rfl, ?_⟩
    have := h4 j u hj
    rw [addr_add rfl]
    simp only [World.cell?, hS.ro _ _ hg]
    simpa using this
theorem St.src {α : Type} {kd : Kd α} {et : TypeId} {v : Value} {ys : List α} {n : Nat} (hS : St e σ w A) (hp : Kw.pull n A = some (Ow kd et v ys, B)) : Src kd σ w v ys := by
  obtain ⟨F, ⟨a, hv, rfl, _⟩ | ⟨b, off, cap, cur, fr, hv, hg, hF, hcl, hm, hsz, hfz, hR⟩⟩ := (hS.pull hp).ow
  · exact ⟨a, 0, [], hv, by simp, by simp, Rows.nil _ _ _ _, by simp⟩
  · obtain ⟨cs, h1, h2, h3, h4⟩ := rows_cells hR
    have hg' : w.heap[b]? = some (.cells cur et fr) := hg
    refine ⟨_, cap, cs, hv, h1, h2, h3, ?_⟩
    intro j u hj
    refine ⟨_, rfl, ?_⟩
    have := h4 j u hj
    rw [addr_add rfl]
    simp only [World.cell?, hg']
    simpa using this

theorem rows_append {α : Type} {kd : Kd α} {l c : List Value} {o : Nat} {xs ys : List α} (h : Rows kd σ l o xs) (k : Rows kd σ c 0 ys) (hw : Win l (o + xs.length * kd.sz) c) (hc : c.length = ys.length * kd.sz) : Rows kd σ l o (xs ++ ys) := by
  intro i x hi
  rw [List.getElem?_append] at hi
  split at hi
  · exact h i x hi
  · rename_i hlt
    obtain ⟨cs, hk, hw'⟩ := k _ x hi
    refine ⟨cs, hk, ?_⟩
    intro j v hj
    have h1 := hw _ v (hw' j v hj)
    rw [← h1]; congr 1
    have : i = (i - xs.length) + xs.length := by omega
    conv => lhs; rw [this, Nat.add_mul]
    omega

theorem run_firstCells {kd_sz n c : Nat} {a : Option Addr} {news : List Value} (hl : news.length = n * kd_sz) (h : ∀ j u, news[j]? = some u → ∃ ad, a = some ad ∧ w.cell? (ad.add j) = some u) :
    (Builtin.firstCells kd_sz n (.slice a n c)).run P w = .ok news.toArray w := by
  cases a with
  | none =>
    have : news = [] := by
      cases news with
      | nil => rfl
      | cons u r => obtain ⟨ad, h1, _⟩ := h 0 u rfl; cases h1
    subst this
    rfl
  | some ad =>
    simp only [Builtin.firstCells, loadCells, ← hl]
    rw [run_loadCells news 0 #[] (fun j u hj => by obtain ⟨ad', h1, h2⟩ := h j u hj; cases h1; simpa using h2)]
    simp

theorem run_app_grow {t ty et : TypeId} {i : TypeInfo} {z : Value} {a0 a : Option Addr} {n cap m c : Nat} {olds news : List Value} (ht : P.underlying t = some (.slice et)) (hi : P.info? et = some i) (hz : i.zero = some z)
    (ho : ∀ w' : World, w'.heap = w.heap → (Builtin.firstCells i.size n (.slice a0 n cap)).run P w' = .ok olds.toArray w') (hn : ∀ w' : World, w'.heap = w.heap → (Builtin.firstCells i.size m (.slice a m c)).run P w' = .ok news.toArray w')
    (hroom : ¬ n + m ≤ cap) (h63 : ((n + m : Nat) : Int) ≤ 9223372036854775807) (hfit : Builtin.nextslicecap (n + m) cap * i.bytes ≤ 281474976710656) :
    (Builtin.append_ #[t, t] ty #[.slice a0 n cap, .slice a m c]).run P w =
      .ok (.slice (some ⟨w.heap.size, 0, none⟩) (n + m) (grownCap w (n + m) cap et)) (w.drew.alloc (.cells (olds ++ news ++ (Builtin.zeroCells z.cells (grownCap w (n + m) cap et - (n + m))).toList).toArray et)) := by
  have h63' : ¬ (9223372036854775807 < ((n : Int) + (m : Int))) := by omega
  have h48' : ¬ (281474976710656 < Builtin.nextslicecap (n + m) cap * i.bytes) := by omega
  have h1 := ho w.drew rfl
  have h2 := hn w.drew rfl
  simp [Builtin.append_, run_underlying ht, sizeOf, typeInfo, zeroValue, hi, hz, Builtin.lenOf, hroom, h63', h48', Question.forced, h1, h2, newRow, grownCap]
  congr 2
  apply Array.ext'
  simp [List.append_assoc]

theorem run_app_room {t ty et : TypeId} {i : TypeInfo} {b off n cap m c : Nat} {a : Option Addr} {news : List Value} {cur : Array Value} {fr : Nat × Nat} (ht : P.underlying t = some (.slice et)) (hi : P.info? et = some i)
    (hn : (Builtin.firstCells i.size m (.slice a m c)).run P w = .ok news.toArray w) (hroom : n + m ≤ cap) (hg : w.heap[b]? = some (.cells cur et fr)) (hfit : off + n * i.size + news.length ≤ cur.size) (h1 : ∀ v ∈ news, v.oneCell' = true)
    (hfz : ∀ j, off + n * i.size ≤ j → j < off + n * i.size + news.length → ¬ (fr.1 ≤ j ∧ j < fr.2)) :
    (Builtin.append_ #[t, t] ty #[.slice (some ⟨b, off, none⟩) n cap, .slice a m c]).run P w =
      .ok (.slice (some ⟨b, off, none⟩) (n + m) cap) (w.setRow b (cur.toList.take (off + n * i.size) ++ news ++ cur.toList.drop (off + n * i.size + news.length)).toArray) := by
  have hst := run_store_row P b (off + n * i.size) et fr news 0 cur w hg (by omega) h1 (by simpa using hfz)
  have hadd : (⟨b, off, none⟩ : Addr).add (n * i.size) = ⟨b, off + n * i.size, none⟩ := addr_add rfl _
  simp only [Nat.add_zero] at hst
  simp [Builtin.append_, run_underlying ht, sizeOf, typeInfo, hi, Builtin.lenOf, hroom, hn, hadd, hst]

theorem run_app_none {t ty et : TypeId} {i : TypeInfo} {a a0 : Option Addr} {c : Nat} (ht : P.underlying t = some (.slice et)) (hi : P.info? et = some i) :
    (Builtin.append_ #[t, t] ty #[.slice a0 0 0, .slice a 0 c]).run P w = .ok (.slice a0 0 0) w := by
  cases a0 <;> cases a <;> simp [Builtin.append_, run_underlying ht, sizeOf, typeInfo, hi, Builtin.lenOf, Builtin.firstCells, loadCells, loadCellsFrom, storeCells]

theorem St.grow {α : Type} {kd : Kd α} {et : TypeId} {a : Asn} {xs : List α} {cs : List Value} {cap : Nat} (hS : St e σ w (a :: B)) (hR : Rows kd σ cs 0 xs) (hc : cap * kd.sz ≤ cs.length) (hx : xs.length ≤ cap) (hm : cap ≤ maxLen) :
    St e σ (w.drew.alloc (.cells cs.toArray et)) (Ow kd et (.slice (some ⟨w.heap.size, 0, none⟩) xs.length cap) xs :: B) := by
  have hS0 : St e σ w.drew B := (St.drewN hS.drop 1)
  refine St.new (A' := [_]) (F1' := fun b => b = w.heap.size) hS0 rfl rfl rfl (by simp) (fun b hb => heap_alloc_old w.drew _ hb) ?_ (fun b hb => by have : w.drew.heap.size = w.heap.size := rfl; omega)
  refine Own.one.2 (.inr ⟨w.heap.size, 0, cap, cs.toArray, (0, 0), rfl, heap_alloc_new w.drew _, fun b => Iff.rfl, hx, hm, by simpa using hc, by simp, by simpa using hR⟩)

theorem e_append {α : Type} {kd : Kd α} {et t : TypeId} {n : Nat} {x y : Operand} {v vy : Value} {xs ys : List α} {bytes : Nat} {z : Value} (hS : St e σ w A) (hp : pull n A = some (Ow kd et v xs, B)) (hx : ev L x = some v) (hy : ev L y = some vy) (hs : Src kd σ w vy ys)
    (ht : P.underlying t = some (.slice et)) (hi : TyI P et kd.sz bytes (some z)) (hz : z.cells.size = kd.sz) (hpos : 0 < kd.sz) (hb : 0 < bytes) (hlim : (xs.length + ys.length) * bytes ≤ 140737488355328) :
    Ef P L ⟨d, .call { callee := .builtin .append, args := #[x, y], argTypes := #[t, t] }, ty, pos, af, g⟩ w fun v' w' => St e σ w' (Ow kd et v' (xs ++ ys) :: B) := by
  have hS1 := hS.pull hp
  obtain ⟨i, hinf, hisz, hiby, hiz⟩ := hi
  have hlen : xs.length + ys.length ≤ 140737488355328 := Nat.le_trans (Nat.le_mul_of_pos_right _ hb) hlim
  have h63 : ((xs.length + ys.length : Nat) : Int) ≤ 9223372036854775807 := by omega
  obtain ⟨a, c, news, rfl, hnl, hn1, hnR, hnc⟩ := hs
  have hfirst : ∀ w' : World, w'.heap = w.heap → (Builtin.firstCells i.size ys.length (.slice a ys.length c)).run P w' = .ok news.toArray w' := fun w' hw' => by
    rw [hisz]; exact run_firstCells hnl (fun j u hj => by obtain ⟨ad, h1, h2⟩ := hnc j u hj; exact ⟨ad, h1, by rw [← h2]; simp [World.cell?, hw']⟩)
  intro ρ hρ
  have hred : (execOp ρ ⟨d, .call { callee := .builtin .append, args := #[x, y], argTypes := #[t, t] }, ty, pos, af, g⟩).run P w =
      ((Builtin.append_ #[t, t] ty #[v, .slice a ys.length c]).run P w).andThen fun u w' => .ok (.value u) w' := by
    simp only [execOp, resolve, List.map_toArray, List.map_cons, List.map_nil, hρ x _ hx, hρ y _ hy, Sem.run_bind, Sem.run_pure, Result.andThen_ok, invoke, builtin]
  unfold Does
  rw [hred]
  have big : ∀ (a0 : Option Addr) (cap : Nat) (olds : List Value), v = .slice a0 xs.length cap → ¬ xs.length + ys.length ≤ cap → olds.length = xs.length * kd.sz → Rows kd σ olds 0 xs →
      (∀ j u, olds[j]? = some u → ∃ ad, a0 = some ad ∧ w.cell? (ad.add j) = some u) →
      ∃ v' w', (Builtin.append_ #[t, t] ty #[v, .slice a ys.length c]).run P w = .ok v' w' ∧ St e σ w' (Ow kd et v' (xs ++ ys) :: B) := by
    intro a0 cap olds hv hroom hol hoR hoc
    subst hv
    have hold : ∀ w' : World, w'.heap = w.heap → (Builtin.firstCells i.size xs.length (.slice a0 xs.length cap)).run P w' = .ok olds.toArray w' := fun w' hw' => by
      rw [hisz]; exact run_firstCells hol (fun j u hj => by obtain ⟨ad, h1, h2⟩ := hoc j u hj; exact ⟨ad, h1, by rw [← h2]; simp [World.cell?, hw']⟩)
    refine ⟨_, _, run_app_grow ht hinf hiz hold hfirst hroom h63 (by rw [hiby]; exact growslice_fits (by omega) hlim), ?_⟩
    have hge := grownCap_ge w (xs.length + ys.length) cap et
    have hcm : grownCap w (xs.length + ys.length) cap et ≤ maxLen := grownCap_le_maxLen w _ cap et (by simp only [maxLen]; omega)
    have hlen2 : (xs ++ ys).length = xs.length + ys.length := List.length_append
    rw [← hlen2] at hge hcm ⊢
    refine St.grow (kd := kd) hS1 ?_ ?_ hge hcm
    · have h1 : Rows kd σ (olds ++ news ++ (Builtin.zeroCells z.cells (grownCap w (xs ++ ys).length cap et - (xs ++ ys).length)).toList) 0 xs := by
        intro q y' hq
        obtain ⟨cs, hk, hw⟩ := hoR q y' hq
        exact ⟨cs, hk, fun j u hj => by
          have := hw j u hj
          have hlt := (List.getElem?_eq_some_iff.1 this).1
          rw [List.append_assoc, List.getElem?_append_left hlt]; exact this⟩
      refine rows_append h1 hnR ?_ hnl
      have := win_mid olds news (Builtin.zeroCells z.cells (grownCap w (xs ++ ys).length cap et - (xs ++ ys).length)).toList
      rw [hol] at this
      simpa using this
    · simp only [List.length_append, Array.length_toList, size_zeroCells, hz, hol, hnl] at hge ⊢
      rw [← Nat.add_mul, ← Nat.add_mul]
      exact Nat.mul_le_mul_right _ (by omega)
  obtain ⟨F, ⟨a0, rfl, rfl, hF⟩ | ⟨b, off, cap, cur, fr, rfl, hg, hF, hcl, hm, hsz, hfz, hR⟩⟩ := hS1.ow
  · by_cases h0 : ys = []
    · subst h0
      have hr : (Builtin.append_ #[t, t] ty #[.slice a0 0 0, .slice a ([] : List α).length c]).run P w = .ok (.slice a0 0 0) w := run_app_none ht hinf
      rw [hr]
      simpa using hS1
    · have hyl : 0 < ys.length := List.length_pos_iff.mpr h0
      obtain ⟨v', w', hr, hs⟩ := big a0 0 [] rfl (by simp; omega) (by simp) (Rows.nil _ _ _ _) (by simp)
      rw [hr]; exact hs
  · have hg' : w.heap[b]? = some (.cells cur et fr) := hg
    by_cases hc0 : cap = 0 ∧ ys = []
    · obtain ⟨rfl, rfl⟩ := hc0
      have hx0 : xs = [] := List.eq_nil_of_length_eq_zero (by omega)
      subst hx0
      have hr : (Builtin.append_ #[t, t] ty #[.slice (some ⟨b, off, none⟩) ([] : List α).length 0, .slice a ([] : List α).length c]).run P w = .ok (.slice (some ⟨b, off, none⟩) 0 0) w := run_app_none ht hinf
      rw [hr]
      simpa using hS1
    by_cases hroom : xs.length + ys.length ≤ cap
    · have hmul : (xs.length + ys.length) * kd.sz ≤ cap * kd.sz := Nat.mul_le_mul_right _ hroom
      rw [Nat.add_mul] at hmul
      have hr := run_app_room (P := P) (w := w) (ty := ty) (t := t) (off := off) (n := xs.length) (cap := cap) (c := c) ht hinf (hfirst w rfl) hroom hg' (by rw [hisz]; omega) hn1 (fun j h1 h2 => by rw [hisz] at h1 h2; exact hfz j (by omega) (by omega))
      have hcs : off + cap * kd.sz ≤ (cur.toList.take (off + xs.length * kd.sz) ++ news ++ cur.toList.drop (off + xs.length * kd.sz + news.length)).length := by
        rw [List.length_append, List.length_append, List.length_take, List.length_drop, Array.length_toList (xs := cur)]
        omega
      rw [hr]
      simp only [Result.andThen_ok]
      rw [hisz]
      refine St.setRow (cur := cur) (T := et) (fr := fr) (g := b) hS1 (fun F' hF' => ?_) (fun h' hh' => .inr ⟨b, off, cap, _, fr, by rw [List.length_append], hh', fun _ => Iff.rfl, by rw [List.length_append]; exact hroom, hm, ?_, hfz, ?_⟩)
      · rcases hF' with ⟨A0, he, hx0, _⟩ | ⟨g2, off2, cap2, cur2, fr2, he, hg2, hF2, _⟩
        · injection he with h5 h6 h7
          exact absurd ⟨h7, List.eq_nil_of_length_eq_zero (by omega)⟩ hc0
        · simp only [Value.slice.injEq, Option.some.injEq, Addr.mk.injEq, and_true, true_and] at he
          obtain ⟨⟨rfl, rfl⟩, rfl⟩ := he
          exact ⟨hg', hF2⟩
      · rw [List.size_toArray]
        exact hcs
      · have hto : (cur.toList.take (off + xs.length * kd.sz)).length = off + xs.length * kd.sz := by rw [List.length_take, Array.length_toList (xs := cur)]; omega
        refine rows_append (c := news) ?_ hnR ?_ hnl
        · intro q y' hq
          obtain ⟨cs, hk, hw⟩ := hR q y' hq
          refine ⟨cs, hk, hw.mono ?_⟩
          intro j h1 h2
          have hq2 : q < xs.length := (List.getElem?_eq_some_iff.1 hq).1
          have hm2 : (q + 1) * kd.sz ≤ xs.length * kd.sz := Nat.mul_le_mul_right _ hq2
          rw [Nat.add_mul] at hm2
          rw [kd.len hk] at h2
          simp only [List.toList_toArray]
          rw [List.append_assoc, List.getElem?_append_left (by omega), List.getElem?_take, if_pos (by omega)]
        · have := win_mid (cur.toList.take (off + xs.length * kd.sz)) news (cur.toList.drop (off + xs.length * kd.sz + news.length))
          rw [hto] at this
          simpa using this
    · obtain ⟨cs, h1, h2, h3, h4⟩ := rows_cells hR
      obtain ⟨v', w', hr, hs⟩ := big (some ⟨b, off, none⟩) cap cs rfl hroom h1 h3 (fun j u hj => ⟨_, rfl, by
        have := h4 j u hj
        rw [addr_add rfl]
        simp only [World.cell?, hg']
        simpa using this⟩)
      rw [hr]; exact hs
end
end Go.Kw
