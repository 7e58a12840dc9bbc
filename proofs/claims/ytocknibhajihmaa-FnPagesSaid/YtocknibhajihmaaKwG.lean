/- More operations: values built, rows made, slices cut, strings; regions drawn, in the form in which a program prints them. Conditions: none. -/
import Derived.Test.YtocknibhajihmaaKwF
set_option linter.unusedVariables false
set_option linter.unusedSimpArgs false
namespace Go.Kw
def w64 (n : Int) : Int := IntKind.i64.wrap n
def w32 (n : Int) : Int := IntKind.u32.wrap n
def w8 (n : Int) : Int := IntKind.u8.wrap n

theorem rows_cons {α : Type} {kd : Kd α} {σ : HF} {x : α} {xs : List α} {c cs : List Value} (h : kd.K σ x c) (k : Rows kd σ cs 0 xs) : Rows kd σ (c ++ cs) 0 (x :: xs) := by
  have hl := kd.len h
  intro i y hi
  cases i with
  | zero => simp at hi; subst hi; exact ⟨c, h, by simpa using win_mid [] c cs⟩
  | succ i =>
    obtain ⟨c', hk, hw⟩ := k i y (by simpa using hi)
    refine ⟨c', hk, ?_⟩
    intro j v hj
    have := hw j v hj
    rw [List.getElem?_append_right (by rw [Nat.add_mul]; omega), ← this]
    congr 1
    rw [Nat.add_mul]; omega
theorem rows_rep {α : Type} {kd : Kd α} {σ : HF} {x : α} {c : List Value} (h : kd.K σ x c) (n : Nat) : Rows kd σ (List.replicate n c).flatten 0 (List.replicate n x) := by
  induction n with
  | zero => exact Rows.nil _ _ _ _
  | succ n ih => rw [List.replicate_succ, List.replicate_succ, List.flatten_cons]; exact rows_cons h ih

section
variable {P : Program} {L : List (Nat × Value)} {w : World} {d : Option Nat} {ty : TypeId} {pos : String} {af : Array Edge} {g : Option (Nat × Bool)} {e : En} {σ : HF} {A B : List Asn}

theorem p_pickT {c x y : Operand} {b : Bool} {u : Value} (hc : ev L c = some (.bool b)) (hb : b = true) (hx : ev L x = some u) : Pu P L ⟨d, .pick c x y, ty, pos, af, g⟩ w u := by
  subst hb; intro ρ hρ; simp [execOp, hρ c _ hc, asBool, hρ x _ hx]
theorem p_pickF {c x y : Operand} {b : Bool} {u : Value} (hc : ev L c = some (.bool b)) (hb : b = false) (hy : ev L y = some u) : Pu P L ⟨d, .pick c x y, ty, pos, af, g⟩ w u := by
  subst hb; intro ρ hρ; simp [execOp, hρ c _ hc, asBool, hρ y _ hy]
theorem p_andT {c x y : Operand} {b u : Bool} (hc : ev L c = some (.bool b)) (hb : b = true) (hx : ev L x = some (.bool u)) : Pu P L ⟨d, .pick c x y, ty, pos, af, g⟩ w (.bool (b && u)) := by
  subst hb; exact p_pickT hc rfl hx
theorem p_andF {c x y : Operand} {b : Bool} (u : Bool) (hc : ev L c = some (.bool b)) (hb : b = false) (hy : ev L y = some (.bool false)) : Pu P L ⟨d, .pick c x y, ty, pos, af, g⟩ w (.bool (b && u)) := by
  subst hb; exact p_pickF hc rfl hy
theorem p_orT {c x y : Operand} {b : Bool} (u : Bool) (hc : ev L c = some (.bool b)) (hb : b = true) (hx : ev L x = some (.bool true)) : Pu P L ⟨d, .pick c x y, ty, pos, af, g⟩ w (.bool (b || u)) := by
  subst hb; exact p_pickT hc rfl hx
theorem p_orF {c x y : Operand} {b u : Bool} (hc : ev L c = some (.bool b)) (hb : b = false) (hy : ev L y = some (.bool u)) : Pu P L ⟨d, .pick c x y, ty, pos, af, g⟩ w (.bool (b || u)) := by
  subst hb; exact p_pickF hc rfl hy

/-- An operation that builds a value: what the machine builds is told by the kernel. -/
def prs (L : List (Nat × Value)) : List (Nat × Operand) → Option (List (Nat × Value))
  | [] => some []
  | (i, x) :: r => match ev L x, prs L r with
    | some v, some vs => some ((i, v) :: vs)
    | _, _ => none
theorem prs_map {ρ : Operand → Value} (hρ : Ag ρ L) : ∀ {ps : List (Nat × Operand)} {vs : List (Nat × Value)}, prs L ps = some vs → ps.map (fun (i, x) => (i, ρ x)) = vs
  | [], vs, h => by simp [prs] at h; simp [h]
  | (i, x) :: r, vs, h => by
    simp only [prs] at h
    cases h1 : ev L x with
    | none => simp [h1] at h
    | some v =>
      cases h2 : prs L r with
      | none => simp [h1, h2] at h
      | some vs' => simp [h1, h2] at h; subst h; simp [hρ x v h1, prs_map hρ h2]
theorem p_build {t : TypeId} {ps : List (Nat × Operand)} {vs : List (Nat × Value)} {v : Value} (hp : prs L ps = some vs) (h : ∀ w : World, (Instr.build t vs.toArray).run P w = .ok v w) : Pu P L ⟨d, .build t ps.toArray, ty, pos, af, g⟩ w v := by
  intro ρ hρ
  have h1 := prs_map hρ hp
  simp only [execOp, List.map_toArray, h1, Sem.run_bind, h, Result.andThen_ok, Sem.run_pure]
theorem e_bslice {α : Type} {kd : Kd α} {t et : TypeId} {n : Nat} {ps : List (Nat × Operand)} {vs : List (Nat × Value)} {cs : List Value} {xs : List α} (hS : St e σ w A) (hp : prs L ps = some vs)
    (h : ∀ w : World, (Instr.buildSlice t n vs.toArray).run P w = .ok (.slice (some ⟨w.heap.size, 0, none⟩) n n) (w.alloc (.cells cs.toArray et))) (hn : n = xs.length) (hm : n ≤ maxLen) (hc : n * kd.sz ≤ cs.length) (hR : Rows kd σ cs 0 xs) :
    Ef P L ⟨d, .buildSlice t n ps.toArray, ty, pos, af, g⟩ w fun v w' => St e σ w' (Ow kd et v xs :: A) := by
  intro ρ hρ
  have h1 := prs_map hρ hp
  unfold Does
  simp only [execOp, List.map_toArray, h1, Sem.run_bind, h, Result.andThen_ok, Sem.run_pure]
  subst hn
  refine St.new (A' := [_]) (F1' := fun b => b = w.heap.size) hS rfl rfl rfl (by simp) (fun b hb => heap_alloc_old w _ hb) ?_ (fun b hb => by omega)
  exact Own.one.2 (.inr ⟨w.heap.size, 0, xs.length, cs.toArray, (0, 0), rfl, heap_alloc_new w _, fun b => Iff.rfl, Nat.le_refl _, hm, by simpa using hc, by simp, by simpa using hR⟩)
theorem e_make {α : Type} {kd : Kd α} {t et : TypeId} {x y : Operand} {n : Int} {k k' : IntKind} {bytes : Nat} {z : Value} {x0 : α} {c : List Value} (hS : St e σ w A) (hx : ev L x = some (.int k n)) (hy : ev L y = some (.int k' n)) (ht : P.underlying t = some (.slice et)) (hi : TyI P et kd.sz bytes (some z))
    (hz : z.cells.toList = c) (hk : kd.K σ x0 c) (h0 : 0 ≤ n) (hb : 0 < bytes) (h1 : n * bytes ≤ 140737488355328) :
    Ef P L ⟨d, .makeSlice t x y, ty, pos, af, g⟩ w fun v w' => St e σ w' (Ow kd et v (List.replicate n.toNat x0) :: A) := by
  obtain ⟨i, hinf, hisz, hiby, hiz⟩ := hi
  intro ρ hρ
  unfold Does
  obtain ⟨m, rfl⟩ := Int.eq_ofNat_of_zero_le h0
  have hle : (m : Int) ≤ 140737488355328 := by
    have : (m : Int) * 1 ≤ m * bytes := Int.mul_le_mul_of_nonneg_left (by omega) (by omega)
    omega
  have hw : IntKind.i64.wrap (m : Int) = m := IntWalk.i64_in (m : Int) (by omega)
  have e1 : ¬ ((m : Int) < 0) := by omega
  have e2 : ¬ (281474976710656 < (i.bytes : Int) * (m : Int)) := by rw [hiby, Int.mul_comm]; omega
  have hlen := kd.len hk
  have hcells : ∀ (q : Nat), ((Array.range (q * kd.sz)).map (fun j => z.cells[j % z.cells.size]!)).toList = (List.replicate q c).flatten := by
    intro q
    subst hz
    have hzs : z.cells.size = kd.sz := by rw [← hlen]; simp
    rw [hzs]
    apply List.ext_getElem?
    intro j
    have hfl : (List.replicate q z.cells.toList).flatten.length = q * kd.sz := by simp [hzs]
    by_cases hj : j < q * kd.sz
    · have hpos : 0 < kd.sz := by
        rcases Nat.eq_zero_or_pos kd.sz with h | h
        · rw [h] at hj; omega
        · exact h
      have hmod : j % kd.sz < z.cells.size := by rw [hzs]; exact Nat.mod_lt _ hpos
      rw [List.getElem?_eq_getElem (by simpa using hj)]
      simp only [Array.toList_map, Array.toList_range, List.getElem_map, List.getElem_range]
      rw [getElem!_pos z.cells _ hmod]
      have : ∀ (q j : Nat), j < q * kd.sz → (List.replicate q z.cells.toList).flatten[j]? = z.cells.toList[j % kd.sz]? := by
        intro q
        induction q with
        | zero => intro j hj; omega
        | succ q ih =>
          intro j hj
          rw [List.replicate_succ, List.flatten_cons]
          by_cases hj2 : j < kd.sz
          · rw [List.getElem?_append_left (by simpa [hzs] using hj2), Nat.mod_eq_of_lt hj2]
          · rw [List.getElem?_append_right (by simp [hzs]; omega)]
            have hl2 : z.cells.toList.length = kd.sz := by simp [hzs]
            rw [hl2, ih (j - kd.sz) (by rw [Nat.add_mul] at hj; omega), Nat.mod_eq_sub_mod (a := j) (by omega)]
      rw [this q j hj]
      simp [hmod]
    · rw [List.getElem?_eq_none (by simpa using hj), List.getElem?_eq_none (by rw [hfl]; omega)]
  have hrun : (execOp ρ ⟨d, .makeSlice t x y, ty, pos, af, g⟩).run P w = .ok (.value (.slice (some ⟨w.heap.size, 0, none⟩) m m)) (w.alloc (.cells ((List.replicate m c).flatten).toArray et)) := by
    have hc2 := hcells m
    by_cases hmz : m * kd.sz = 0
    · have hfe : (List.replicate m c).flatten = [] := by
        apply List.eq_nil_of_length_eq_zero
        simp [hlen, hmz]
      simp [execOp, hρ x _ hx, hρ y _ hy, Instr.makeSlice, underlying, ht, asInt, asIntOf, typeInfo, hinf, hw, e1, e2, sizeOf, hisz, hmz, zeroValue, newRow, hfe, show Array.range 0 = #[] from rfl]
    · have hfe : (Array.range (m * kd.sz)).map (fun j => z.cells[j % z.cells.size]!) = ((List.replicate m c).flatten).toArray := by
        apply Array.ext'; rw [hc2]
      simp [execOp, hρ x _ hx, hρ y _ hy, Instr.makeSlice, underlying, ht, asInt, asIntOf, typeInfo, hinf, hw, e1, e2, sizeOf, hisz, hmz, zeroValue, hiz, newRow, hfe]
  rw [hrun]
  refine St.new (A' := [_]) (F1' := fun b => b = w.heap.size) hS rfl rfl rfl (by simp) (fun b hb => heap_alloc_old w _ hb) ?_ (fun b hb => by omega)
  refine Own.one.2 (.inr ⟨w.heap.size, 0, m, _, (0, 0), by simp, heap_alloc_new w _, fun b => Iff.rfl, by simp, by simp only [maxLen]; omega, by simp [hlen], by simp, ?_⟩)
  simpa using rows_rep hk m

/-- An element's address in a row of one's own whose value is written out. -/
theorem p_idxo2 {α : Type} {kd : Kd α} {et t : TypeId} {x y : Operand} {k : IntKind} {i : Int} {b off cap : Nat} {xs : List α} {bytes : Nat} {z : Option Value}
    (hx : ev L x = some (.slice (some ⟨b, off, none⟩) xs.length cap)) (hy : ev L y = some (.int k i)) (ht : P.underlying t = some (.slice et)) (he : TyI P et kd.sz bytes z) (h0 : 0 ≤ i) (h1 : i < xs.length) :
    Pu P L ⟨d, .indexAddr t x y, ty, pos, af, g⟩ w (.pointer (some ⟨b, off + i.toNat * kd.sz, none⟩)) := by
  intro ρ hρ
  simp [execOp, hρ x _ hx, hρ y _ hy, Instr.indexAt, asIntOf, underlying, ht, h0, h1, he.size w, addr_add]

/-! ### cutting -/
def cut {α : Type} (xs : List α) (i j : Int) : List α := (xs.take j.toNat).drop i.toNat
theorem Sl.cut {α : Type} {kd : Kd α} {a : Option Addr} {cap : Nat} {xs : List α} (h : Sl kd σ (.slice a xs.length cap) xs) {i j : Nat} (h1 : i ≤ j) (h2 : j ≤ xs.length) :
    Sl kd σ (.slice (if cap = i then a else a.map (·.add (i * kd.sz))) (j - i) (cap - i)) ((xs.take j).drop i) := by
  obtain ⟨a', cap', he, hc, h⟩ := h
  injection he with e1 e2 e3
  subst e1 e3
  have hlen : ((xs.take j).drop i).length = j - i := by simp; omega
  refine ⟨_, _, by rw [hlen], by rw [hlen]; omega, ?_⟩
  by_cases hz : j - i = 0
  · exact .inl (List.eq_nil_of_length_eq_zero (by rw [hlen, hz]))
  · rcases h with h | ⟨b, off, cur, T, fr, rfl, hb, hR⟩
    · subst h; simp at h2; omega
    · have hci : ¬ cap = i := by omega
      refine .inr ⟨b, off + i * kd.sz, cur, T, fr, by rw [if_neg hci]; simp [addr_add], hb, ?_⟩
      intro q x hq
      rw [List.getElem?_drop, List.getElem?_take] at hq
      split at hq
      · obtain ⟨cs, hk, hw⟩ := hR _ x hq
        exact ⟨cs, hk, by rw [show off + i * kd.sz + q * kd.sz = off + (i + q) * kd.sz by rw [Nat.add_mul]; omega]; exact hw⟩
      · cases hq
def lo? (L : List (Nat × Value)) : Option Operand → Option Int
  | none => some 0
  | some x => match ev L x with
    | some (.int _ n) => some n
    | _ => none
def hi? (L : List (Nat × Value)) (n : Int) : Option Operand → Option Int
  | none => some n
  | some x => match ev L x with
    | some (.int _ n) => some n
    | _ => none
theorem lo_spec {ρ : Operand → Value} (hρ : Ag ρ L) {l : Option Operand} {i : Int} (h : lo? L l = some i) : (l = none ∧ i = 0) ∨ ∃ x k, l = some x ∧ ρ x = .int k i := by
  cases l with
  | none => simp [lo?] at h; exact .inl ⟨rfl, h.symm⟩
  | some x =>
    simp only [lo?] at h
    split at h
    · rename_i k n hx; injection h with h; subst h; exact .inr ⟨x, k, rfl, hρ x _ hx⟩
    · cases h
theorem hi_spec {ρ : Operand → Value} (hρ : Ag ρ L) {n : Int} {l : Option Operand} {i : Int} (h : hi? L n l = some i) : (l = none ∧ i = n) ∨ ∃ x k, l = some x ∧ ρ x = .int k i := by
  cases l with
  | none => simp [hi?] at h; exact .inl ⟨rfl, h.symm⟩
  | some x =>
    simp only [hi?] at h
    split at h
    · rename_i k m hx; injection h with h; subst h; exact .inr ⟨x, k, rfl, hρ x _ hx⟩
    · cases h
theorem run_cut {t et : TypeId} {sz bytes : Nat} {z : Option Value} {x : Operand} {l h : Option Operand} {i j : Int} {a : Option Addr} {n cap : Nat} (ht : P.underlying t = some (.slice et)) (he : TyI P et sz bytes z) (hx : ev L x = some (.slice a n cap))
    (hl : lo? L l = some i) (hh : hi? L n h = some j) (h0 : 0 ≤ i) (h1 : i ≤ j) (h2 : j ≤ cap) :
    Pu P L ⟨d, .slice t x l h none, ty, pos, af, g⟩ w (.slice (if cap = i.toNat then a else a.map (·.add (i.toNat * sz))) (j.toNat - i.toNat) (cap - i.toNat)) := by
  intro ρ hρ
  have hjt : (0 : Int) ≤ j := by omega
  rcases lo_spec hρ hl with ⟨rfl, rfl⟩ | ⟨xl, kl, rfl, hxl⟩ <;> rcases hi_spec hρ hh with ⟨rfl, rfl⟩ | ⟨xh, kh, rfl, hxh⟩
  · simp [execOp, hρ x _ hx, Instr.sliceAt, underlying, ht, Instr.slice, Instr.sliceBounds, he.size w]
  · simp [execOp, hρ x _ hx, hxh, Instr.sliceAt, underlying, ht, Instr.slice, Instr.sliceBounds, Instr.sliceBound, asIntOf, hjt, h2, he.size w]
  · simp [execOp, hρ x _ hx, hxl, Instr.sliceAt, underlying, ht, Instr.slice, Instr.sliceBounds, Instr.sliceBound, asIntOf, h0, h1, he.size w]
  · simp [execOp, hρ x _ hx, hxl, hxh, Instr.sliceAt, underlying, ht, Instr.slice, Instr.sliceBounds, Instr.sliceBound, asIntOf, h0, hjt, h2, h1, he.size w]
    intro hc; omega

theorem p_slr {α : Type} {kd : Kd α} {t et : TypeId} {bytes : Nat} {z : Option Value} {i j : Int} {v : Value} {xs : List α} (ht : P.underlying t = some (.slice et)) (he : TyI P et kd.sz bytes z) (hs : Sl kd σ v xs)
    (h0 : 0 ≤ i) (h1 : i ≤ j) (h2 : j ≤ xs.length) : ∃ v', Sl kd σ v' (cut xs i j) ∧ ∀ {L x l h w d ty pos af g}, ev L x = some v → lo? L l = some i → hi? L xs.length h = some j → Pu P L ⟨d, .slice t x l h none, ty, pos, af, g⟩ w v' := by
  obtain ⟨a, cap, rfl, hc, hr⟩ := hs
  have hs : Sl kd σ (.slice a xs.length cap) xs := ⟨a, cap, rfl, hc, hr⟩
  refine ⟨_, hs.cut (i := i.toNat) (j := j.toNat) (by omega) (by omega), fun {L x l h w d ty pos af g} hx hl hh => run_cut ht he hx hl hh h0 h1 (by omega)⟩
theorem St.ow_cut {α : Type} {kd : Kd α} {et : TypeId} {a : Option Addr} {cap : Nat} {xs : List α} (hS : St e σ w (Ow kd et (.slice a xs.length cap) xs :: B)) {i j : Int} (h0 : 0 ≤ i) (h1 : i ≤ j) (h2 : j ≤ xs.length) :
    St e σ w (Ow kd et (.slice (if cap = i.toNat then a else a.map (·.add (i.toNat * kd.sz))) (j.toNat - i.toNat) (cap - i.toNat)) (cut xs i j) :: B) := by
  obtain ⟨F, ⟨F1, F2, k1, k2, k3, k4⟩, hF, hσ⟩ := hS.own
  have hlen : (cut xs i j).length = j.toNat - i.toNat := by simp [Kw.cut]; omega
  have key : ∃ F1', (Ow kd et (.slice (if cap = i.toNat then a else a.map (·.add (i.toNat * kd.sz))) (j.toNat - i.toNat) (cap - i.toNat)) (cut xs i j)).p σ (hf w) F1' ∧ ∀ b, F1' b → F1 b := by
    rcases k1 with ⟨a', he, hx, hn⟩ | ⟨b, off, cap', cur, fr, he, hg, hFg, hc, hm, hsz, hfz, hR⟩
    · injection he with e1 e2 e3
      have hx0 : xs.length = 0 := e2
      have e4 : j.toNat - i.toNat = 0 := by omega
      have e5 : cap - i.toNat = 0 := by omega
      exact ⟨fun _ => False, .inl ⟨_, by rw [e4, e5], List.eq_nil_of_length_eq_zero (by rw [hlen, e4]), fun _ h => h⟩, fun _ h => h.elim⟩
    · injection he with e1 e2 e3
      subst e1 e3
      by_cases hci : cap = i.toNat
      · have e4 : j.toNat - i.toNat = 0 := by omega
        have e5 : cap - i.toNat = 0 := by omega
        exact ⟨fun _ => False, .inl ⟨_, by rw [e4, e5], List.eq_nil_of_length_eq_zero (by rw [hlen, e4]), fun _ h => h⟩, fun _ h => h.elim⟩
      · have hmul : cap * kd.sz = (cap - i.toNat) * kd.sz + i.toNat * kd.sz := by rw [← Nat.add_mul]; congr 1; omega
        refine ⟨F1, .inr ⟨b, off + i.toNat * kd.sz, cap - i.toNat, cur, fr, by rw [if_neg hci, hlen]; simp [addr_add], hg, hFg, by rw [hlen]; omega, by omega, by omega, fun q h3 h4 => hfz q (by omega) (by omega), ?_⟩, fun _ h => h⟩
        intro q x hq
        simp only [Kw.cut, List.getElem?_drop, List.getElem?_take] at hq
        split at hq
        · obtain ⟨cs, hk, hw⟩ := hR _ x hq
          exact ⟨cs, hk, by rw [show off + i.toNat * kd.sz + q * kd.sz = off + (i.toNat + q) * kd.sz by rw [Nat.add_mul]; omega]; exact hw⟩
        · cases hq
  obtain ⟨F1', k1', hsub⟩ := key
  exact { hS with own := ⟨fun b => F1' b ∨ F2 b, ⟨F1', F2, k1', k2, fun b h5 h6 => k3 b (hsub b h5) h6, fun _ => Iff.rfl⟩, fun b hb => hF b ((k4 b).2 (hb.imp (hsub b) id)), fun b o ho hb => hσ b o ho ((k4 b).2 (hb.imp (hsub b) id))⟩ }
/-- Cutting a row of one's own: the cut takes its place. -/
theorem p_slo {α : Type} {kd : Kd α} {t et : TypeId} {bytes : Nat} {z : Option Value} {n : Nat} {i j : Int} {v : Value} {xs : List α} (hS : St e σ w A) (hp : pull n A = some (Ow kd et v xs, B)) (ht : P.underlying t = some (.slice et)) (he : TyI P et kd.sz bytes z)
    (h0 : 0 ≤ i) (h1 : i ≤ j) (h2 : j ≤ xs.length) : ∃ v', St e σ w (Ow kd et v' (cut xs i j) :: B) ∧ ∀ {L x l h w d ty pos af g}, ev L x = some v → lo? L l = some i → hi? L xs.length h = some j → Pu P L ⟨d, .slice t x l h none, ty, pos, af, g⟩ w v' := by
  have hS1 := hS.pull hp
  obtain ⟨a, cap, rfl, hc⟩ := hS1.ow_val
  exact ⟨_, hS1.ow_cut h0 h1 h2, fun {L x l h w d ty pos af g} hx hl hh => run_cut ht he hx hl hh h0 h1 (by omega)⟩
end
end Go.Kw
