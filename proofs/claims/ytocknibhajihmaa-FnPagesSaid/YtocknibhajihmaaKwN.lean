/- The tail of a row of one's own made nothing. Conditions: none. -/
import Derived.Test.YtocknibhajihmaaKwL
set_option linter.unusedVariables false
set_option linter.unusedSimpArgs false
namespace Go.Kw
theorem zero_flat {z : Value} {c : List Value} {sz : Nat} (hz : z.cells.toList = c) (hlen : c.length = sz) (q : Nat) : (Builtin.zeroCells z.cells q).toList = (List.replicate q c).flatten := by
  subst hz
  have hzs : z.cells.size = sz := by rw [← hlen]; simp
  unfold Builtin.zeroCells
  rw [hzs]
  apply List.ext_getElem?
  intro j
  have hfl : (List.replicate q z.cells.toList).flatten.length = q * sz := by simp [hzs]
  by_cases hj : j < q * sz
  · have hpos : 0 < sz := by
      rcases Nat.eq_zero_or_pos sz with h | h
      · rw [h] at hj; omega
      · exact h
    have hmod : j % sz < z.cells.size := by rw [hzs]; exact Nat.mod_lt _ hpos
    rw [List.getElem?_eq_getElem (by simpa using hj)]
    simp only [Array.toList_map, Array.toList_range, List.getElem_map, List.getElem_range]
    rw [getElem!_pos z.cells _ hmod]
    have : ∀ (q j : Nat), j < q * sz → (List.replicate q z.cells.toList).flatten[j]? = z.cells.toList[j % sz]? := by
      intro q
      induction q with
      | zero => intro j hj; omega
      | succ q ih =>
        intro j hj
        rw [List.replicate_succ, List.flatten_cons]
        by_cases hj2 : j < sz
        · rw [List.getElem?_append_left (by simpa [hzs] using hj2), Nat.mod_eq_of_lt hj2]
        · rw [List.getElem?_append_right (by simp [hzs]; omega)]
          have hl2 : z.cells.toList.length = sz := by simp [hzs]
          rw [hl2, ih (j - sz) (by rw [Nat.add_mul] at hj; omega), Nat.mod_eq_sub_mod (a := j) (by omega)]
    rw [this q j hj]
    simp [hmod]
  · rw [List.getElem?_eq_none (by simpa using hj), List.getElem?_eq_none (by rw [hfl]; omega)]
section
variable {P : Program} {L : List (Nat × Value)} {w : World} {d : Option Nat} {ty : TypeId} {pos : String} {af : Array Edge} {g : Option (Nat × Bool)} {e : En} {σ : HF} {A B : List Asn}
/-- v' is v from element i on. -/
def TailOf (sz : Nat) (v v' : Value) (i : Nat) : Prop := ∃ a n cap, v = .slice a n cap ∧ v' = .slice (if cap = i then a else a.map (·.add (i * sz))) (n - i) (cap - i)
theorem p_tail {α : Type} {kd : Kd α} {t et : TypeId} {bytes : Nat} {z : Option Value} {n : Nat} {i : Int} {v : Value} {xs : List α} (hS : St e σ w A) (hp : pull n A = some (Ow kd et v xs, B)) (ht : P.underlying t = some (.slice et)) (he : TyI P et kd.sz bytes z)
    (h0 : 0 ≤ i) (h1 : i ≤ xs.length) : ∃ v', TailOf kd.sz v v' i.toNat ∧ ∀ {L x l w d ty pos af g}, ev L x = some v → lo? L (some l) = some i → Pu P L ⟨d, .slice t x (some l) none none, ty, pos, af, g⟩ w v' := by
  have hS1 := hS.pull hp
  obtain ⟨a, cap, rfl, hc⟩ := hS1.ow_val
  refine ⟨_, ⟨a, xs.length, cap, rfl, rfl⟩, fun {L x l w d ty pos af g} hx hl => ?_⟩
  have := run_cut (P := P) (L := L) (x := x) (l := some l) (h := none) (w := w) (d := d) (ty := ty) (pos := pos) (af := af) (g := g) (i := i) (j := (xs.length : Int)) ht he hx hl rfl h0 h1 (by omega)
  simpa using this
theorem e_clear {α : Type} {kd : Kd α} {et t : TypeId} {n : Nat} {x : Operand} {v v' : Value} {xs : List α} {i bytes : Nat} {z : Value} {c : List Value} {x0 : α} (hS : St e σ w A) (hp : pull n A = some (Ow kd et v xs, B)) (hT : TailOf kd.sz v v' i) (hi : i ≤ xs.length) (hx : ev L x = some v')
    (ht : P.underlying t = some (.slice et)) (he : TyI P et kd.sz bytes (some z)) (hz : z.cells.toList = c) (hk : kd.K σ x0 c) :
    Ef P L ⟨d, .call { callee := .builtin .clear, args := #[x], argTypes := #[t] }, ty, pos, af, g⟩ w fun _ w' => St e σ w' (Ow kd et v (xs.take i ++ List.replicate (xs.length - i) x0) :: B) := by
  have hS1 := hS.pull hp
  have hlen := kd.len hk
  obtain ⟨inf, hinf, hisz, hiby, hiz⟩ := he
  obtain ⟨a, l, cap, rfl, rfl⟩ := hT
  intro ρ hρ
  have hred : ∀ u : Value, ρ x = u → (execOp ρ ⟨d, .call { callee := .builtin .clear, args := #[x], argTypes := #[t] }, ty, pos, af, g⟩).run P w =
      ((Builtin.clear_ #[t] ty #[u]).run P w).andThen fun u w' => .ok (.value u) w' := by
    intro u hu
    simp only [execOp, resolve, List.map_toArray, List.map_cons, List.map_nil, hu, Sem.run_bind, Sem.run_pure, Result.andThen_ok, invoke, builtin]
  unfold Does
  rw [hred _ (hρ x _ hx)]
  obtain ⟨F, ⟨A0, he, hx0, hF⟩ | ⟨b, off, cap', cur, fr, he, hg, hF, hcl, hm, hsz, hfz, hR⟩⟩ := hS1.ow
  · simp only [Value.slice.injEq] at he
    obtain ⟨rfl, rfl, rfl⟩ := he
    subst hx0
    have hi0 : i = 0 := by simpa using hi
    subst hi0
    have : (Builtin.clear_ #[t] ty #[.slice (if (0 : Nat) = 0 then a else a.map (·.add (0 * kd.sz))) (0 - 0) (0 - 0)]).run P w = .ok (.tuple #[]) w := by
      cases a <;> simp [Builtin.clear_, run_underlying ht]
    rw [this]
    simpa using hS1
  · simp only [Value.slice.injEq] at he
    obtain ⟨rfl, rfl, rfl⟩ := he
    have hg' : w.heap[b]? = some (.cells cur et fr) := hg
    by_cases hil : i = xs.length
    · subst hil
      have : ∀ aa : Option Addr, (Builtin.clear_ #[t] ty #[.slice aa (xs.length - xs.length) (cap - xs.length)]).run P w = .ok (.tuple #[]) w := by
        intro aa
        rw [Nat.sub_self]
        cases aa <;> simp [Builtin.clear_, run_underlying ht]
      rw [this]
      simpa using hS1
    · have hci : cap ≠ i := by omega
      have hmul : cap * kd.sz = i * kd.sz + (xs.length - i) * kd.sz + (cap - xs.length) * kd.sz := by rw [← Nat.add_mul, ← Nat.add_mul]; congr 1; omega
      have hfl := zero_flat (q := xs.length - i) hz hlen
      have hfll : ((List.replicate (xs.length - i) c).flatten).length = (xs.length - i) * kd.sz := by simp [hlen]
      have hone : ∀ u ∈ (List.replicate (xs.length - i) c).flatten, u.oneCell' = true := by
        intro u hu
        obtain ⟨l, hl, hul⟩ := List.mem_flatten.1 hu
        rw [List.eq_of_mem_replicate hl] at hul
        exact kd.one hk u hul
      have hst := run_store_row P b (off + i * kd.sz) et fr ((List.replicate (xs.length - i) c).flatten) 0 cur w hg' (by rw [hfll]; omega) hone (fun j h1 h2 => by rw [hfll] at h2; exact hfz j (by omega) (by omega))
      have hpos : xs.length - i ≠ 0 := by omega
      obtain ⟨m, hm0⟩ : ∃ m, xs.length - i = m + 1 := ⟨xs.length - i - 1, by omega⟩
      have hrun : (Builtin.clear_ #[t] ty #[.slice (if cap = i then some ⟨b, off, none⟩ else (some (⟨b, off, none⟩ : Addr)).map (·.add (i * kd.sz))) (xs.length - i) (cap - i)]).run P w =
          .ok (.tuple #[]) (w.setRow b (cur.toList.take (off + i * kd.sz) ++ (List.replicate (xs.length - i) c).flatten ++ cur.toList.drop (off + i * kd.sz + ((List.replicate (xs.length - i) c).flatten).length)).toArray) := by
        rw [if_neg hci]
        have hadd : (⟨b, off, none⟩ : Addr).add (i * kd.sz) = ⟨b, off + i * kd.sz, none⟩ := addr_add rfl _
        simp only [Option.map_some, hadd]
        have hst' := hst
        simp only [Nat.add_zero] at hst'
        rw [hm0] at hst' hfl ⊢
        simp [Builtin.clear_, run_underlying ht, zeroValue, typeInfo, hinf, hiz, hfl, hst']
      rw [hrun]
      simp only [Result.andThen_ok]
      refine St.setRow (cur := cur) (T := et) (fr := fr) (g := b) hS1 (fun F' hF' => ?_) (fun h' hh' => .inr ⟨b, off, cap, _, fr, by simp; omega, hh', fun _ => Iff.rfl, by simp; omega, hm, ?_, hfz, ?_⟩)
      · rcases hF' with ⟨A0, he, hx0, _⟩ | ⟨g2, off2, cap2, cur2, fr2, he, hg2, hF2, _⟩
        · injection he with _ h2 _; omega
        · simp only [Value.slice.injEq, Option.some.injEq, Addr.mk.injEq, and_true, true_and] at he
          obtain ⟨⟨rfl, rfl⟩, rfl⟩ := he
          exact ⟨hg', hF2⟩
      · simp [hlen]; omega
      · have hto : (cur.toList.take (off + i * kd.sz)).length = off + i * kd.sz := by rw [List.length_take, Array.length_toList (xs := cur)]; omega
        have hti : (xs.take i).length = i := by simp; omega
        refine rows_append (c := (List.replicate (xs.length - i) c).flatten) ?_ (rows_rep hk _) ?_ (by simp [hlen])
        · intro q y' hq
          have hq2 : q < i := by have := (List.getElem?_eq_some_iff.1 hq).1; omega
          rw [List.getElem?_take, if_pos hq2] at hq
          obtain ⟨cs, hkk, hw⟩ := hR q y' hq
          refine ⟨cs, hkk, hw.mono ?_⟩
          intro j h1 h2
          have hm2 : (q + 1) * kd.sz ≤ i * kd.sz := Nat.mul_le_mul_right _ hq2
          rw [Nat.add_mul] at hm2
          rw [kd.len hkk] at h2
          simp only [List.toList_toArray]
          rw [List.append_assoc, List.getElem?_append_left (by omega), List.getElem?_take, if_pos (by omega)]
        · have := win_mid (cur.toList.take (off + i * kd.sz)) ((List.replicate (xs.length - i) c).flatten) (cur.toList.drop (off + i * kd.sz + ((List.replicate (xs.length - i) c).flatten).length))
          rw [hto] at this
          rw [hti]
          simpa using this
end
end Go.Kw
