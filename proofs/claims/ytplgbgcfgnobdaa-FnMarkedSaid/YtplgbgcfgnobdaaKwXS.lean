/- The plain law of the heap: lists of what is marked; Reach, Garbage. Conditions: none. -/
import Derived.Test.YtplgbgcfgnobdaaKwXR
set_option linter.unusedVariables false
set_option linter.unusedSimpArgs false
namespace Go.Proofs.Ytplgbgcfgnobdaa
open Go.Kw
open Classical

/-- Those of 0 .. n - 1 that p picks, in order. -/
def pickL (p : Nat → Bool) (n : Nat) : List Int := ((List.range n).filter p).map (fun (j : Nat) => (j : Int))
theorem pickL_succ (p : Nat → Bool) (n : Nat) : pickL p (n + 1) = pickL p n ++ (if p n = true then [(n : Int)] else []) := by
  simp only [pickL, List.range_succ, List.filter_append, List.map_append]
  congr 1
  cases h : p n <;> simp [h]
theorem pickL_len (p : Nat → Bool) (n : Nat) : (pickL p n).length ≤ n := by
  simp only [pickL, List.length_map]
  exact Nat.le_trans (List.length_filter_le _ _) (by simp)
theorem mem_pickL {p : Nat → Bool} {n : Nat} {x : Int} : x ∈ pickL p n ↔ ∃ j : Nat, j < n ∧ p j = true ∧ x = (j : Int) := by
  simp only [pickL, List.mem_map, List.mem_filter, List.mem_range]
  exact ⟨fun ⟨j, ⟨h1, h2⟩, h3⟩ => ⟨j, h1, h2, h3.symm⟩, fun ⟨j, h1, h2, h3⟩ => ⟨j, ⟨h1, h2⟩, h3.symm⟩⟩
theorem pickL_congr {p q : Nat → Bool} {n : Nat} (h : ∀ j, j < n → p j = q j) : pickL p n = pickL q n := by
  induction n with
  | zero => rfl
  | succ n ih => rw [pickL_succ, pickL_succ, ih fun j hj => h j (by omega), h n (by omega)]
noncomputable def rchB (v : List TSlot) (root : Int) (j : Nat) : Bool := decide (Rch v root (j : Int))
noncomputable def reachL (v : List TSlot) (root : Int) : List Int := pickL (rchB v root) 32
theorem Marks.eq {v : List TSlot} {root : Int} {m : List Bool} (h : Marks v root m) {j : Nat} (hj : j < 32) : rd m (j : Int) = rchB v root j := by
  have h1 := h.2 (j : Int) (by omega) (by omega)
  unfold rchB
  by_cases hr : Rch v root (j : Int)
  · rw [h1.2 hr]; simp [hr]
  · have : ¬ rd m (j : Int) = true := fun e => hr (h1.1 e)
    simp [hr]; simpa using this
theorem marked_ev {v : List TSlot} {root : Int} {m : List Bool} (h : Marks v root m) : EvP (fun k => impl_marked.f k m) (· = reachL v root) := by
  unfold impl_marked.f impl_marked.c1
  refine EvP.bind (Q := (· = reachL v root)) ?_ fun r hr => EvP.ret hr
  have := for_up (fun k (s : List Int) i => impl_marked.l1 m k s i) 32 (fun i s => s = pickL (rchB v root) i) (· = reachL v root) ?_ ?_ (i := 0) (s := []) (by decide) rfl
  · exact this
  · intro i s hi hI ih
    simp only [impl_marked.l1, impl_marked.c2]
    refine EvP.ifT (by rw [h.1]; simp; omega) ?_
    refine EvP.bind (Q := fun s' => s' = pickL (rchB v root) (i + 1)) ?_ fun s' hs' => ?_
    · refine EvP.ifT ⟨by omega, by rw [h.1]; omega⟩ ?_
      rw [pickL_succ, h.eq hi]
      refine EvP.iteD (fun hb => EvP.ifT ?_ (EvP.ret ?_)) fun hb => EvP.ret ?_
      · have := pickL_len (rchB v root) i; rw [hI]; omega
      · rw [hI]; simp [hb]
      · rw [hI]; simp [hb]
    · rw [w64_succ hi (by decide)]
      exact ih s' hs'
  · intro s hI
    simp only [impl_marked.l1]
    exact EvP.ifF (by rw [h.1]; simp) (EvP.ret hI)
theorem notOid {root : Int} (h0 : 1 ≤ root) (h1 : root ≤ 31) : (!(decide (1 ≤ root) && decide (root ≤ 31))) = false := by simp [h0, h1]
theorem Reach_ev {v : List TSlot} (hv : Vok v) {root : Int} (h0 : 1 ≤ root) (h1 : root ≤ 31) : EvP (fun k => impl_Reach.f k v root) (· = reachL v root) := by
  unfold impl_Reach.f impl_Reach.c1
  refine EvP.bind1 (ViewOk_ev hv) (EvP.bind1 (a := false) (EvP.ifF (by simp) ?_) ?_)
  · simp only [isOid_eq, Option.bind_some, notOid h0 h1]; exact EvP.ret rfl
  · refine EvP.ifF (by simp) (EvP.bind (marksOf_ev hv h0 h1) fun m hm => EvP.bind (marked_ev hm) fun r hr => EvP.ret hr)
noncomputable def garbB (v : List TSlot) (root : Int) (j : Nat) : Bool := (rd v (j : Int)).Has && !rchB v root j
noncomputable def garbL (v : List TSlot) (root : Int) : List Int := pickL (garbB v root) 32
theorem Garbage_ev {v : List TSlot} (hv : Vok v) {root : Int} (h0 : 1 ≤ root) (h1 : root ≤ 31) : EvP (fun k => impl_Garbage.f k v root) (· = garbL v root) := by
  unfold impl_Garbage.f impl_Garbage.c3 impl_Garbage.c1
  refine EvP.bind1 (ViewOk_ev hv) (EvP.bind1 (a := false) (EvP.ifF (by simp) ?_) ?_)
  · simp only [isOid_eq, Option.bind_some, notOid h0 h1]; exact EvP.ret rfl
  refine EvP.ifF (by simp) (EvP.bind (Q := (· = garbL v root)) (EvP.bind (marksOf_ev hv h0 h1) fun m h => ?_) fun r hr => EvP.ret hr)
  have := for_up (fun k (s : List Int) i => impl_Garbage.l1 m v k s i) 32 (fun i s => s = pickL (garbB v root) i) (· = garbL v root) ?_ ?_ (i := 0) (s := []) (by decide) rfl
  · exact this
  · intro i s hi hI ih
    simp only [impl_Garbage.l1, impl_Garbage.c2]
    refine EvP.ifT (by rw [h.1]; simp; omega) ?_
    refine EvP.bind (Q := fun s' => s' = pickL (garbB v root) (i + 1)) ?_ fun s' hs' => ?_
    · refine EvP.ifT ⟨by omega, by rw [h.1]; omega⟩ (EvP.ifT ⟨by omega, by rw [hv.1]; omega⟩ ?_)
      rw [pickL_succ, h.eq hi]
      refine EvP.iteD (fun hb => EvP.ifT ?_ (EvP.ret ?_)) fun hb => EvP.ret ?_
      · have := pickL_len (garbB v root) i; rw [hI]; omega
      · rw [hI]; simp [garbB, hb]
      · rw [hI]; simp [garbB, hb]
    · rw [w64_succ hi (by decide)]
      exact ih s' hs'
  · intro s hI
    simp only [impl_Garbage.l1]
    exact EvP.ifF (by rw [h.1]; simp) (EvP.ret hI)
theorem among_ev {xs : List Int} (hl : xs.length < 9223372036854775808) (x : Int) : EvP (fun k => laws_among.f k xs x) (· = decide (x ∈ xs)) := by
  unfold laws_among.f laws_among.c1
  have := for_up (fun k (s : Unit) i => laws_among.l1 xs x k i) xs.length (fun i _ => ∀ j (h : j < xs.length), j < i → xs[j] ≠ x) (fun r => (r = Ex.ret true ∧ x ∈ xs) ∨ (r = Ex.go () ∧ ¬ x ∈ xs)) ?_ ?_ (i := 0) (s := ()) (Nat.zero_le _) (fun j _ h => absurd h (by omega))
  · refine EvP.bind this ?_
    rintro a (⟨rfl, h⟩ | ⟨rfl, h⟩)
    · exact EvP.ret (by simp [h])
    · exact EvP.ret (by simp [h])
  · intro i s hi hI ih
    simp only [laws_among.l1]
    refine EvP.ifT (by simpa using hi) (EvP.ifT ⟨by omega, by omega⟩ (EvP.iteD (fun hb => EvP.ret (.inl ⟨rfl, ?_⟩)) fun hb => ?_))
    · rw [rd_eq hi] at hb; simp at hb; exact hb ▸ List.getElem_mem hi
    · rw [w64_succ hi hl]
      refine ih () fun j h hj => ?_
      rcases Nat.lt_or_ge j i with h1 | h1
      · exact hI j h h1
      · obtain rfl : j = i := by omega
        rw [rd_eq hi] at hb; simpa using hb
  · intro s hI
    simp only [laws_among.l1]
    refine EvP.ifF (by simp) (EvP.ret (.inr ⟨rfl, fun hx => ?_⟩))
    obtain ⟨j, hj, e⟩ := List.getElem_of_mem hx
    exact hI j hj hj e
theorem sameInts_ev (xs : List Int) (hl : xs.length < 9223372036854775808) : EvP (fun k => laws_sameInts.f k xs xs) (· = true) := by
  unfold laws_sameInts.f laws_sameInts.c1
  refine EvP.ifF (by simp) ?_
  have := for_up (fun k (s : Unit) i => laws_sameInts.l1 xs xs k i) xs.length (fun i _ => True) (fun r => r = Ex.go ()) ?_ ?_ (i := 0) (s := ()) (Nat.zero_le _) trivial
  · refine EvP.bind this ?_
    rintro a rfl
    exact EvP.ret rfl
  · intro i s hi hI ih
    simp only [laws_sameInts.l1]
    refine EvP.ifT (by simpa using hi) (EvP.ifT ⟨by omega, by omega⟩ (EvP.ifT ⟨by omega, by omega⟩ (EvP.ifF (by simp) ?_)))
    rw [w64_succ hi hl]
    exact ih () trivial
  · intro s hI
    simp only [laws_sameInts.l1]
    exact EvP.ifF (by simp) (EvP.ret rfl)
theorem big_ev (xs : List Int) : EvP (fun k => laws_big.f k xs) (· = decide (1048576 < (xs.length : Int))) := EvP.ret rfl
theorem at_ev {xs : List Int} (hl : xs.length ≤ 1048576) (hb : ∀ n ∈ xs, (Lit.int .u8 n).wf = true) {i : Int} (h0 : 0 ≤ i) (hi : i ≤ 100) : EvP (fun k => laws_at.f k xs i) (fun r => 0 ≤ r ∧ r ≤ 255) := by
  unfold laws_at.f
  refine EvP.iteD (fun h => EvP.ifT ⟨h0, by simpa using h⟩ (EvP.ret ?_)) fun h => EvP.ret ?_
  · have h1 := hb _ (rd_mem h0 (by simpa using h))
    simp only [Lit.wf, IntKind.min, IntKind.max, IntKind.signed, IntKind.bits] at h1
    simp at h1
    rw [w64_id (by omega) (by omega)]; omega
  · have e : w64 (w64 (i * 31) + w64 ((xs.length : Int) * 7)) = i * 31 + xs.length * 7 := by
      rw [w64_id (n := i * 31) (by omega) (by omega), w64_id (n := (xs.length : Int) * 7) (by omega) (by omega), w64_id (by omega) (by omega)]
    rw [e]
    have := tmod_range (a := i * 31 + xs.length * 7) (n := 256) (by omega) (by decide)
    omega
theorem oid_range {a : Int} (h : 0 ≤ a ∧ a ≤ 255) : 1 ≤ w64 (1 + a.tmod 31) ∧ w64 (1 + a.tmod 31) ≤ 31 := by
  have := tmod_range h.1 (n := 31) (by decide)
  rw [w64_id (by omega) (by omega)]; omega
end Go.Proofs.Ytplgbgcfgnobdaa
