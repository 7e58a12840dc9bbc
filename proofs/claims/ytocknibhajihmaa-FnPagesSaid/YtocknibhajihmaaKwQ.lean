/- Parts of what lies closed in a box: arrays, whose elements are read and written by a drawn index. Conditions: none. -/
import Derived.Test.YtocknibhajihmaaKwN
set_option linter.unusedVariables false
set_option linter.unusedSimpArgs false
namespace Go.Kw
section
variable {P : Program} {L : List (Nat × Value)} {w : World} {d : Option Nat} {ty : TypeId} {pos : String} {af : Array Edge} {g : Option (Nat × Bool)} {e : En} {σ : HF} {A B : List Asn}
theorem one_app {a b : List Value} (h : ∀ v ∈ a, v.oneCell' = true) (k : ∀ v ∈ b, v.oneCell' = true) : ∀ v ∈ a ++ b, v.oneCell' = true := fun v hv => (List.mem_append.1 hv).elim (h v) (k v)
/-- The cells of a part of what lies in a box. -/
theorem ba_part {α β : Type} {kd : Kd α} {kd' : Kd β} {x : α} {T : TypeId} {b n o base : Nat} {l cs r all : List Value} (hS : St e σ w A) (hp : pull n A = some (pt b T all, B)) (ha : all = l ++ cs ++ r) (hk : kd.K σ x cs) (q : Lens kd kd') (hl : l.length = base) (ho : base + q.off = o) :
    ∃ m, kd'.K σ (q.get x) m ∧ ∀ j u, m[j]? = some u → w.cell? ((⟨b, o, none⟩ : Addr).add j) = some u := by
  subst ha
  obtain ⟨l1, m, r1, rfl, hl1, hm⟩ := q.hget hk
  refine ⟨m, hm, fun j u hj => ?_⟩
  have h1 := (hS.pull hp).pt
  rw [addr_add rfl]
  simp only [World.cell?, h1]
  have e1 : l ++ (l1 ++ m ++ r1) ++ r = (l ++ l1) ++ m ++ (r1 ++ r) := by simp
  have := win_mid (l ++ l1) m (r1 ++ r) j u hj
  rw [e1]
  have e2 : (l ++ l1).length = o := by simp [hl, hl1, ho]
  rw [e2] at this
  simpa using this
theorem p_ldba_agg {α β : Type} {kd : Kd α} {kd' : Kd β} {t : TypeId} {x0 : α} {T : TypeId} {b o base bytes : Nat} {z : Option Value} {l cs r all : List Value} (ha : all = l ++ cs ++ r) (hk : kd.K σ x0 cs) (q : Lens kd kd') (hl : l.length = base) (ho : base + q.off = o)
    (hag : IsAgg P t true) (ht : TyI P t kd'.sz bytes z) : ∃ m, kd'.K σ (q.get x0) m ∧ ∀ {e : En} {σ' : HF} {w : World} {A B : List Asn} {n : Nat} {L x d ty pos af g}, St e σ' w A → pull n A = some (pt b T all, B) → ev L x = some (.pointer (some ⟨b, o, none⟩)) → Pu P L ⟨d, .load t x, ty, pos, af, g⟩ w (.agg m.toArray) := by
  subst ha
  obtain ⟨l1, m, r1, rfl, hl1, hm⟩ := q.hget hk
  refine ⟨m, hm, fun {e σ' w A B n L x d ty pos af g} hS hp hx => p_load_cells hx hag (by rw [kd'.len hm]; exact ht) fun j u hj => ?_⟩
  have h1 := (hS.pull hp).pt
  rw [addr_add rfl]
  simp only [World.cell?, h1]
  have e1 : l ++ (l1 ++ m ++ r1) ++ r = (l ++ l1) ++ m ++ (r1 ++ r) := by simp
  have := win_mid (l ++ l1) m (r1 ++ r) j u hj
  rw [e1]
  have e2 : (l ++ l1).length = o := by simp [hl, hl1, ho]
  rw [e2] at this
  simpa using this
theorem p_ldba_one {α β : Type} {kd : Kd α} {kd' : Kd β} {t : TypeId} {x0 : α} {T : TypeId} {b o base : Nat} {l cs r all : List Value} (ha : all = l ++ cs ++ r) (hk : kd.K σ x0 cs) (q : Lens kd kd') (hl : l.length = base) (ho : base + q.off = o)
    (hag : IsAgg P t false) (hq : kd'.sz = 1) : ∃ v, kd'.K σ (q.get x0) [v] ∧ ∀ {e : En} {σ' : HF} {w : World} {A B : List Asn} {n : Nat} {L x d ty pos af g}, St e σ' w A → pull n A = some (pt b T all, B) → ev L x = some (.pointer (some ⟨b, o, none⟩)) → Pu P L ⟨d, .load t x, ty, pos, af, g⟩ w v := by
  subst ha
  obtain ⟨l1, m, r1, rfl, hl1, hm⟩ := q.hget hk
  have hlen := kd'.len hm
  rw [hq] at hlen
  obtain ⟨v, rfl⟩ := List.length_eq_one_iff.1 hlen
  refine ⟨v, hm, fun {e σ' w A B n L x d ty pos af g} hS hp hx => p_load_one hx hag ?_⟩
  have h1 := (hS.pull hp).pt
  simp only [World.cell?, h1]
  have e1 : l ++ (l1 ++ [v] ++ r1) ++ r = (l ++ l1) ++ [v] ++ (r1 ++ r) := by simp
  have := win_mid (l ++ l1) [v] (r1 ++ r) 0 v rfl
  rw [e1]
  have e2 : (l ++ l1).length = o := by simp [hl, hl1, ho]
  rw [e2] at this
  simpa using this
theorem e_stba {α β : Type} {kd : Kd α} {kd' : Kd β} {t : TypeId} {x0 : α} {y0 : β} {T : TypeId} {x y : Operand} {u : Value} {b n o base bytes : Nat} {z : Option Value} {l cs r all m' : List Value} (hS : St e σ w A) (hp : pull n A = some (pt b T all, B)) (ha : all = l ++ cs ++ r) (hk : kd.K σ x0 cs) (q : Lens kd kd') (hl : l.length = base) (ho : base + q.off = o)
    (hx : ev L x = some (.pointer (some ⟨b, o, none⟩))) (hy : ev L y = some u) (ht : TyI P t kd'.sz bytes z) (hu : u.cells.toList = m') (hc : kd'.K σ y0 m') :
    Ef P L ⟨none, .store t x y, ty, pos, af, g⟩ w fun v w' => ∃ cs', kd.K σ (q.set x0 y0) cs' ∧ St e σ w' (pt b T (l ++ cs' ++ r) :: B) := by
  subst ha
  obtain ⟨l1, m, r1, rfl, hl1, hm⟩ := q.hget hk
  have hnew := q.hset hk hl1 (kd'.len hm) hc
  have e1 : l ++ (l1 ++ m ++ r1) ++ r = (l ++ l1) ++ m ++ (r1 ++ r) := by simp
  have e2 : l ++ (l1 ++ m' ++ r1) ++ r = (l ++ l1) ++ m' ++ (r1 ++ r) := by simp
  have := e_stb (P := P) (L := L) (ty := ty) (pos := pos) (af := af) (g := g) hS hp hx hy ht e1 (by simp [hl, hl1, ho]) (kd'.len hm) hu (kd'.len hc) (fun v hv => kd'.one hc v hv) e2.symm
  exact this.mono fun v w' hw => ⟨_, hnew, hw⟩
/-- A slice of an array that is read for good. -/
theorem Pr.arr_sl {α : Type} {kd : Kd α} {n : Nat} {ad : Addr} {xs : List α} (h : Pr (Kd.arr n kd) σ ad xs) : Sl kd σ (.slice (some ad) n n) xs := by
  obtain ⟨hs, cur, T, fr, cs, hg, ⟨hx, hc, ho, hR⟩, hw⟩ := h
  obtain ⟨b, off, spot⟩ := ad
  subst hs
  refine ⟨_, n, by rw [hx], by omega, .inr ⟨b, off, cur, T, fr, rfl, hg, fun i x hi => ?_⟩⟩
  obtain ⟨c, hk, hw'⟩ := hR i x hi
  refine ⟨c, hk, fun j v hj => ?_⟩
  have := hw _ v (hw' j v hj)
  rw [← this]
  congr 1
  simp only; omega
theorem p_slarr {t : TypeId} {et : TypeId} {n sz bytes : Nat} {z : Option Value} {x : Operand} {ad : Addr} (ht : P.underlying t = some (.array n et)) (he : TyI P et sz bytes z) (hpos : 0 < n) (hx : ev L x = some (.pointer (some ad))) :
    Pu P L ⟨d, .slice t x none none none, ty, pos, af, g⟩ w (.slice (some ad) n n) := by
  intro ρ hρ
  have h0 : ¬ n = 0 := by omega
  have ha : ad.add 0 = ad := rfl
  simp [execOp, hρ x _ hx, Instr.sliceAt, underlying, ht, Instr.slice, Instr.sliceBounds, he.size w, Instr.sureAddr, h0, ha]
theorem rows_cells_at {α : Type} {kd : Kd α} {n : Nat} {xs : List α} {cs : List Value} [Inhabited α] (h : (Kd.arr n kd).K σ xs cs) {i : Int} (h0 : 0 ≤ i) (h1 : i < n) : ∃ l m r, cs = l ++ m ++ r ∧ l.length = i.toNat * kd.sz ∧ kd.K σ (rd xs i) m := by
  obtain ⟨hx, hc, ho, hR⟩ := h
  have := rows_split hR (rd_get h0 (by omega)) (by rw [hx, hc]; omega)
  simpa using this
/-- An element of an array's value. -/
theorem p_idxv_agg {α : Type} {kd : Kd α} {t et : TypeId} {n bytes : Nat} {z : Option Value} {xs : List α} {cs : List Value} {i : Int} [Inhabited α] (hk : (Kd.arr n kd).K σ xs cs) (ht : P.underlying t = some (.array n et)) (he : TyI P et kd.sz bytes z) (ha : IsAgg P et true) (h0 : 0 ≤ i) (h1 : i < n) :
    ∃ m, kd.K σ (rd xs i) m ∧ ∀ {L x y k w d ty pos af g}, ev L x = some (.agg cs.toArray) → ev L y = some (.int k i) → Pu P L ⟨d, .index t x y, ty, pos, af, g⟩ w (.agg m.toArray) := by
  obtain ⟨l, m, r, rfl, hl, hm⟩ := rows_cells_at hk h0 h1
  refine ⟨m, hm, fun {L x y k w d ty pos af g} hx hy => ?_⟩
  intro ρ hρ
  have hml := kd.len hm
  have : (l ++ m ++ r).toArray.extract (i.toNat * kd.sz) (i.toNat * kd.sz + kd.sz) = m.toArray := by
    rw [← hl, ← hml]; simp
  simp only [execOp, hρ x _ hx, hρ y _ hy, Instr.index, asIntOf, Sem.run_bind, Sem.run_pure, underlying, run_program, ht, Result.andThen_ok, h0, h1, and_self, if_true, he.size w, part, ha.run w, this]
theorem p_idxv_one {α : Type} {kd : Kd α} {t et : TypeId} {n bytes : Nat} {z : Option Value} {xs : List α} {cs : List Value} {i : Int} [Inhabited α] (hk : (Kd.arr n kd).K σ xs cs) (ht : P.underlying t = some (.array n et)) (he : TyI P et kd.sz bytes z) (ha : IsAgg P et false) (hs : kd.sz = 1) (h0 : 0 ≤ i) (h1 : i < n) :
    ∃ v, kd.K σ (rd xs i) [v] ∧ ∀ {L x y k w d ty pos af g}, ev L x = some (.agg cs.toArray) → ev L y = some (.int k i) → Pu P L ⟨d, .index t x y, ty, pos, af, g⟩ w v := by
  obtain ⟨l, m, r, rfl, hl, hm⟩ := rows_cells_at hk h0 h1
  have hml := kd.len hm
  rw [hs] at hml
  obtain ⟨v, rfl⟩ := List.length_eq_one_iff.1 hml
  refine ⟨v, hm, fun {L x y k w d ty pos af g} hx hy => ?_⟩
  intro ρ hρ
  have : (l ++ [v] ++ r).toArray[i.toNat * kd.sz]? = some v := by
    rw [← hl]; simp
  simp only [execOp, hρ x _ hx, hρ y _ hy, Instr.index, asIntOf, Sem.run_bind, Sem.run_pure, underlying, run_program, ht, Result.andThen_ok, h0, h1, and_self, if_true, he.size w, part, ha.run w, this]
  simp
theorem arr_rep {α : Type} {kd : Kd α} {x : α} {c : List Value} (h : kd.K σ x c) : ∀ (n : Nat), (Kd.arr n kd).K σ (List.replicate n x) ((List.replicate n c).flatten)
  | 0 => arr_nil
  | n + 1 => by
    have := arr_cons h (arr_rep h n)
    rw [List.replicate_succ, List.replicate_succ, List.flatten_cons]; exact this
end
end Go.Kw
