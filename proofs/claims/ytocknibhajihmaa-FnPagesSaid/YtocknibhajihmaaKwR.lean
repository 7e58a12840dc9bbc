/- More operations: capacity, conversions that change nothing, what slices.Grow does to nil. Conditions: none. -/
import Derived.Test.YtocknibhajihmaaKwQ
set_option linter.unusedVariables false
set_option linter.unusedSimpArgs false
namespace Go.Kw
theorem addr2 (b off m j : Nat) : ((⟨b, off, none⟩ : Addr).add m).add j = ⟨b, off + m + j, none⟩ := by rw [addr_add (ad := ⟨b, off, none⟩) rfl, addr_add rfl]
section
variable {P : Program} {L : List (Nat × Value)} {w : World} {d : Option Nat} {ty : TypeId} {pos : String} {af : Array Edge} {g : Option (Nat × Bool)} {e : En} {σ : HF} {A B : List Asn}
theorem p_cap {t e : TypeId} {x : Operand} {a : Option Addr} {n c : Nat} (ht : P.underlying t = some (.slice e)) (hx : ev L x = some (.slice a n c)) :
    Pu P L ⟨d, .call { callee := .builtin .cap, args := #[x], argTypes := #[t] }, ty, pos, af, g⟩ w (.int .i64 c) := by
  intro ρ hρ
  simp [execOp, resolve, hρ x _ hx, invoke, builtin, Builtin.cap_, underlying, ht, goInt]
theorem Sl.optr {α β : Type} [Inhabited α] {kd : Kd α} {kd' : Kd β} {v : Value} {xs : List α} {b off n cap o : Nat} {i : Int} (h : Sl kd σ v xs) (hv : v = .slice (some ⟨b, off, none⟩) n cap) (q : Lens kd kd') (h0 : 0 ≤ i) (h1 : i < xs.length) (ho : off + i.toNat * kd.sz + q.off = o) : Pr kd' σ ⟨b, o, none⟩ (q.get (rd xs i)) := by
  obtain ⟨ad, cap', he, hp⟩ := h.at h0 h1
  rw [hv] at he
  injection he with e1 _ _
  injection e1 with e2
  subst e2
  have := hp.lens q
  rw [addr2] at this
  subst ho
  exact this
theorem e_callA {f : FuncId} {c : Operand} {xs : List Operand} {ats : Array TypeId} {fst cap : List Value} {vs : List Value} {args : Array Value} {R : Value → World → Prop} (hc : ev L c = some (.func (.func f) fst.toArray cap.toArray)) (hx : evs L xs = some vs) (hg : Go1 P f)
    (h : Calls P f args w fun en w' => ∃ v, en = .returned v ∧ R v w') (ha : (fst ++ vs ++ cap).toArray = args) :
    Ef P L ⟨d, .call { callee := .value c, args := xs.toArray, argTypes := ats }, ty, pos, af, g⟩ w R := by
  subst ha; exact e_call hc hx hg h
def imax (a b : Int) : Int := if b > a then b else a
def imin (a b : Int) : Int := if b < a then b else a
theorem p_max {x y : Operand} {ats : Array TypeId} {k k' : IntKind} {a b : Int} (hx : ev L x = some (.int k a)) (hy : ev L y = some (.int k' b)) :
    Pu P L ⟨d, .call { callee := .builtin .max, args := #[x, y], argTypes := ats }, ty, pos, af, g⟩ w (.int k (imax a b)) := by
  intro ρ hρ
  simp [execOp, resolve, hρ x _ hx, hρ y _ hy, invoke, builtin, Builtin.max_, Builtin.max2, imax]
theorem p_min {x y : Operand} {ats : Array TypeId} {k k' : IntKind} {a b : Int} (hx : ev L x = some (.int k a)) (hy : ev L y = some (.int k' b)) :
    Pu P L ⟨d, .call { callee := .builtin .min, args := #[x, y], argTypes := ats }, ty, pos, af, g⟩ w (.int k (imin a b)) := by
  intro ρ hρ
  simp [execOp, resolve, hρ x _ hx, hρ y _ hy, invoke, builtin, Builtin.min_, Builtin.min2, imin]
/-- Noughts put behind nothing. -/
theorem e_appz {α : Type} {kd : Kd α} {t et t2 : TypeId} {k : IntKind} {x y : Operand} {n : Int} {bytes : Nat} {z : Value} {c : List Value} {x0 : α} (hS : St e σ w A) (hx : ev L x = some (.slice none 0 0)) (hy : ev L y = some (.int .i64 n)) (ht : P.underlying t = some (.slice et)) (ht2 : P.underlying t2 = some (.int k))
    (hi : TyI P et kd.sz bytes (some z)) (hz : z.cells.toList = c) (hk : kd.K σ x0 c) (h0 : 0 < n) (hb : 0 < bytes) (hpos : 0 < kd.sz) (hlim : n * bytes ≤ 140737488355328) :
    Ef P L ⟨d, .call { callee := .builtin .append, args := #[x, y], argTypes := #[t, t2] }, ty, pos, af, g⟩ w fun v' w' => St e σ w' (Ow kd et v' (List.replicate n.toNat x0) :: A) := by
  obtain ⟨i, hinf, hisz, hiby, hiz⟩ := hi
  obtain ⟨m, rfl⟩ := Int.eq_ofNat_of_zero_le (Int.le_of_lt h0)
  have hm0 : 0 < m := by omega
  have hlen := kd.len hk
  have hle : (m : Int) ≤ 140737488355328 := by
    have : (m : Int) * 1 ≤ m * bytes := Int.mul_le_mul_of_nonneg_left (by omega) (by omega)
    omega
  have hmb : m * bytes ≤ 140737488355328 := by have h5 : ((m * bytes : Nat) : Int) ≤ 140737488355328 := by rw [Int.natCast_mul]; exact hlim
                                               omega
  have hw : IntKind.i64.wrap (m : Int) = m := IntWalk.i64_in (m : Int) (by omega)
  have e1 : ¬ ((m : Int) < 0) := by omega
  have e2 : ¬ (281474976710656 < (m : Int) * (i.bytes : Int)) := by rw [hiby]; omega
  have e3 : ¬ m * kd.sz = 0 := by
    intro h
    rcases Nat.mul_eq_zero.1 h with h | h <;> omega
  have hzs : z.cells.size = kd.sz := by rw [← hlen, ← hz]; simp
  have hns : Builtin.nextslicecap m 0 = m := by unfold Builtin.nextslicecap; rw [if_pos (by omega)]
  have h48 : ¬ (281474976710656 < m * i.bytes) := by rw [hiby]; omega
  have hm1 : ¬ m ≤ 0 := by omega
  have hm2 : ¬ m = 0 := by omega
  have hm3 : ¬ (9223372036854775807 < (m : Int)) := by omega
  intro ρ hρ
  unfold Does
  have hzf := zero_flat (q := m) hz hlen
  have hrun : (Builtin.append_ #[t, t2] ty #[.slice none 0 0, .int .i64 m]).run P w = .ok (.slice (some ⟨w.heap.size, 0, none⟩) m (grownCap w m 0 et)) (w.drew.alloc (.cells ((List.replicate m c).flatten ++ (Builtin.zeroCells z.cells (grownCap w m 0 et - m)).toList).toArray et)) := by
    have e4 : Builtin.zeroCells z.cells m = ((List.replicate m c).flatten).toArray := by apply Array.ext'; rw [hzf]
    simp [Builtin.append_, run_underlying ht, run_underlying ht2, sizeOf, typeInfo, zeroValue, hinf, hiz, Builtin.lenOf, asInt, asIntOf, hw, e1, e2, hisz, e3, hm1, hm2, hm3, hns, h48, Question.forced, Builtin.firstCells, newRow, grownCap, e4]
    congr 2
    apply Array.ext'
    simp
  have hred : (execOp ρ ⟨d, .call { callee := .builtin .append, args := #[x, y], argTypes := #[t, t2] }, ty, pos, af, g⟩).run P w =
      ((Builtin.append_ #[t, t2] ty #[.slice none 0 0, .int .i64 m]).run P w).andThen fun u w' => .ok (.value u) w' := by
    simp only [execOp, resolve, List.map_toArray, List.map_cons, List.map_nil, hρ x _ hx, hρ y _ hy, Sem.run_bind, Sem.run_pure, Result.andThen_ok, invoke, builtin]
  rw [hred, hrun]
  have hge := grownCap_ge w m 0 et
  have hcm : grownCap w m 0 et ≤ maxLen := grownCap_le_maxLen w _ 0 et (by simp only [maxLen]; omega)
  have hS0 : St e σ w.drew A := St.drewN hS 1
  refine St.new (A' := [_]) (F1' := fun b => b = w.heap.size) hS0 rfl rfl rfl (by simp) (fun b hb => heap_alloc_old w.drew _ hb) ?_ (fun b hb => by have : w.drew.heap.size = w.heap.size := rfl; omega)
  have hfl : ((List.replicate m c).flatten).length = m * kd.sz := by simp [hlen]
  have hRl : (List.replicate (m : Int).toNat x0).length = m := by simp
  refine Own.one.2 (.inr ⟨w.heap.size, 0, grownCap w m 0 et, _, (0, 0), by rw [hRl], heap_alloc_new w.drew _, fun b => Iff.rfl, by rw [hRl]; exact hge, hcm, ?_, by simp, ?_⟩)
  · simp only [Nat.zero_add, List.size_toArray, List.length_append, hfl, Array.length_toList, size_zeroCells, hzs]
    rw [← Nat.add_mul]
    exact Nat.mul_le_mul_right _ (by omega)
  · simp only [List.toList_toArray, Int.toNat_natCast]
    have := rows_rep hk m
    intro q y' hq
    obtain ⟨cs, hkk, hwin⟩ := this q y' hq
    refine ⟨cs, hkk, fun j u hj => ?_⟩
    have h9 := hwin j u hj
    have hlt := (List.getElem?_eq_some_iff.1 h9).1
    rw [List.getElem?_append_left hlt]; exact h9
end
end Go.Kw
