/- The plain law of the heap: marking with a stack of little room. Conditions: none. -/
import Derived.Test.YtplgbgcfgnobdaaKwXS
set_option linter.unusedVariables false
set_option linter.unusedSimpArgs false
namespace Go.Proofs.Ytplgbgcfgnobdaa
open Go.Kw
open Classical

def Done (v : List TSlot) (m : List Bool) (i : Int) : Prop := ∀ y ∈ refs v i, Live v y → rd m y = true
theorem unm_countP (m : List Bool) : unm m = (List.range m.length).countP (fun (j : Nat) => !rd m (j : Int)) := by
  have e : m = (List.range m.length).map (fun (j : Nat) => rd m (j : Int)) := by
    apply List.ext_getElem (by simp)
    intro i h1 h2
    simp only [List.getElem_map, List.getElem_range]
    rw [rd_eq h1]
  unfold unm
  rw [List.count_eq_countP]
  conv => lhs; rw [e]
  rw [List.countP_map]
  congr 1
  funext j
  cases h : rd m (j : Int) <;> simp [h]
theorem unm_mono {m m' : List Bool} (h : m.length = 32) (h' : m'.length = 32) (k : ∀ i, 0 ≤ i → i ≤ 31 → rd m i = true → rd m' i = true) : unm m' ≤ unm m := by
  rw [unm_countP, unm_countP, h, h']
  refine List.countP_mono_left fun j hj hn => ?_
  have hj' : j < 32 := by simpa using hj
  cases e : rd m (j : Int) with
  | false => simp [e]
  | true => have := k (j : Int) (by omega) (by omega) e; simp [this] at hn
theorem unm_lt {m m' : List Bool} (h : m.length = 32) (h' : m'.length = 32) (k : ∀ i, 0 ≤ i → i ≤ 31 → rd m i = true → rd m' i = true) {y : Int} (h0 : 0 ≤ y) (h1 : y ≤ 31) (hy : rd m y = false) (hy' : rd m' y = true) : unm m' < unm m := by
  have hw := unm_wr h0 (by rw [h]; omega) hy
  have := unm_mono (m := wr m y true) (m' := m') (by rw [wr_len, h]) h' fun i h2 h3 h4 => by
    rw [rd_wr h0 (by rw [h]; omega) h2] at h4
    by_cases e : i = y
    · rw [e]; exact hy'
    · rw [if_neg e] at h4; exact k i h2 h3 h4
  omega

theorem take_step' {α : Type} {l : List α} {i : Nat} (h : i < l.length) : l.take (i + 1) = l.take i ++ [l[i]] := by rw [List.take_add_one, List.getElem?_eq_getElem h]; rfl
theorem unmarked_ev {v : List TSlot} (hv : Vok v) {m : List Bool} (hm : m.length = 32) {s : List Int} {most : Int} {over : Bool} {y : Int} (h0 : 0 ≤ y) (h1 : y ≤ 31) :
    EvP (fun k => impl_marker_unmarked.f k v m s most over y) (· = ((rd v y).Has && !rd m y, v, m, s, most, over)) := by
  unfold impl_marker_unmarked.f impl_marker_unmarked.c2 impl_marker_unmarked.c1
  refine EvP.bind1 (a := (rd v y).Has) ?_ (EvP.bind1 (a := (rd v y).Has && !rd m y) ?_ (EvP.ret rfl))
  · refine EvP.ite (fun h => EvP.ifT ⟨h0, by rw [hv.1]; omega⟩ (EvP.ret rfl)) fun h => EvP.ret ?_
    obtain rfl : y = 0 := by simp at h; omega
    exact hv.2.1.symm
  · refine EvP.iteD (fun h => EvP.ifT ⟨h0, by rw [hm]; omega⟩ (EvP.ret (by simp [h]))) fun h => EvP.ret (by simp [h])
theorem live_iff {v : List TSlot} {m : List Bool} {y : Int} (h0 : 0 ≤ y) (h1 : y ≤ 31) : ((rd v y).Has && !rd m y) = true ↔ Live v y ∧ rd m y = false := by
  simp [Live, h0, h1]

/-- What a drain does. -/
structure DP (v : List TSlot) (root : Int) (m : List Bool) (s : List Int) (over : Bool) (most : Int) (m' : List Bool) (over' : Bool) : Prop where
  len : m'.length = 32
  sound : ∀ i, 0 ≤ i → i ≤ 31 → rd m' i = true → Rch v root i
  mono : ∀ i, 0 ≤ i → i ≤ 31 → rd m i = true → rd m' i = true
  done : ∀ i ∈ s, Done v m' i
  new : ∀ i, 0 ≤ i → i ≤ 31 → rd m' i = true → rd m i = false → Done v m' i ∨ over' = true
  ov : over = true → over' = true
  room : s.length + unm m ≤ 32 → 33 ≤ most → over' = over
  nil : s = [] → m' = m ∧ over' = over
structure DI (v : List TSlot) (root : Int) (m : List Bool) (s : List Int) : Prop where
  len : m.length = 32
  sound : ∀ i, 0 ≤ i → i ≤ 31 → rd m i = true → Rch v root i
  stk : ∀ x ∈ s, 0 ≤ x ∧ x ≤ 31 ∧ rd m x = true
/-- Half way through the looking through of i. -/
structure LI (v : List TSlot) (root : Int) (m : List Bool) (s0 : List Int) (over : Bool) (most : Int) (i : Int) (j : Nat) (m1 : List Bool) (s1 : List Int) (over1 : Bool) : Prop where
  di : DI v root m1 s1
  mono : ∀ i, 0 ≤ i → i ≤ 31 → rd m i = true → rd m1 i = true
  sub : ∀ x ∈ s0, x ∈ s1
  new : ∀ i, 0 ≤ i → i ≤ 31 → rd m1 i = true → rd m i = false → i ∈ s1 ∨ over1 = true
  ov : over = true → over1 = true
  rf : ∀ y ∈ (refs v i).take j, Live v y → rd m1 y = true
  meas : 2 * unm m1 + s1.length ≤ 2 * unm m + s0.length
  room : s0.length + 1 + unm m ≤ 32 → 33 ≤ most → over1 = over ∧ s1.length + unm m1 ≤ s0.length + unm m
theorem drain_ev {v : List TSlot} (hv : Vok v) {root : Int} {most : Int} : ∀ (n : Nat) {m : List Bool} {s : List Int} {over : Bool}, 2 * unm m + s.length ≤ n → n ≤ 1000 → DI v root m s →
    EvP (fun k => impl_marker_drain.l2 k v m s most over) (fun r => ∃ m' over', r = (v, m', [], most, over') ∧ DP v root m s over most m' over') := by
  intro n
  have stop : ∀ {m : List Bool} {over : Bool}, DI v root m [] → EvP (fun k => impl_marker_drain.l2 k v m [] most over) (fun r => ∃ m' over', r = (v, m', [], most, over') ∧ DP v root m [] over most m' over') := by
    intro m over hI
    refine EvP.succ ?_
    simp only [impl_marker_drain.l2]
    exact EvP.ifF (by simp) (EvP.ret ⟨m, over, rfl, hI.len, hI.sound, fun _ _ _ h => h, by simp, fun i _ _ h1 h2 => absurd h1 (by simp [h2]), fun h => h, fun _ _ => rfl, fun _ => ⟨rfl, rfl⟩⟩)
  induction n with
  | zero =>
    intro m s over h hn hI
    obtain rfl : s = [] := List.eq_nil_of_length_eq_zero (by omega)
    exact stop hI
  | succ n ih =>
    intro m s over h hn hI
    rcases List.eq_nil_or_concat s with rfl | ⟨s0, i, rfl⟩
    · exact stop hI
    rw [List.concat_eq_append] at *
    refine EvP.succ ?_
    simp only [impl_marker_drain.l2]
    have hl : (s0 ++ [i]).length = s0.length + 1 := by simp
    have hs0 : s0.length ≤ 1000 := by omega
    have e1 : w64 (((s0 ++ [i]).length : Int) - 1) = (s0.length : Int) := by rw [hl, w64_id (by omega) (by omega)]; omega
    have e2 : rd (s0 ++ [i]) (s0.length : Int) = i := by rw [rd_eq (by simp)]; simp
    have e3 : cut (s0 ++ [i]) 0 (s0.length : Int) = s0 := by simp [cut]
    obtain ⟨hi0, hi1, him⟩ := hI.stk i (by simp)
    have hro := refs_ok hv hi0 hi1
    have hRi := hI.sound i hi0 hi1 him
    simp only [e1, e2, e3]
    refine EvP.ifT (by simp) (EvP.ifT ⟨by omega, by omega⟩ (EvP.ifT ⟨by omega, by omega, by omega⟩ (EvP.ifT ⟨hi0, by rw [hv.1]; omega⟩ ?_)))
    have hul := unm_le m
    have := for_up2 (fun a k (t : List TSlot × List Bool × List Int × Int × Bool) j => impl_marker_drain.l1 (impl_marker_drain.l2 a) v (s0 ++ [i]) k t.1 t.2.1 t.2.2.1 t.2.2.2.1 t.2.2.2.2 j) (refs v i).length
      (fun j t => t.1 = v ∧ t.2.2.2.1 = most ∧ LI v root m s0 over most i j t.2.1 t.2.2.1 t.2.2.2.2) (fun r => ∃ m' over', r = (v, m', [], most, over') ∧ DP v root m (s0 ++ [i]) over most m' over') ?_ ?_
      (i := 0) (s := (v, m, s0, most, over)) 0 (Nat.zero_le _) ⟨rfl, rfl, ⟨hI.len, hI.sound, fun x hx => hI.stk x (by simp [hx])⟩, fun _ _ _ h => h, fun _ h => h, fun i _ _ h1 h2 => absurd h1 (by simp [h2]), fun h => h, by simp, Nat.le_refl _, fun _ _ => ⟨rfl, Nat.le_refl _⟩⟩
    · exact this
    · rintro j ⟨v', m1, s1, most', over1⟩ d hj ⟨h1, h2, hL⟩ ih2
      dsimp only at h1 h2 hL ih2 ⊢
      subst h1 h2
      simp only [impl_marker_drain.l1, impl_marker_drain.c1, e1, e2]
      have er : rd (rd v' i).O.Refs (j : Int) = (refs v' i)[j] := rd_eq hj
      have hm := hro.2 _ (List.getElem_mem hj)
      have hj5 := hro.1
      simp only [er]
      refine EvP.ifT (by simp; exact hj) ?_
      refine EvP.bind (Q := fun t => t.1 = v' ∧ t.2.2.2.1 = most' ∧ LI v' root m s0 over most' i (j + 1) t.2.1 t.2.2.1 t.2.2.2.2) ?_ fun t ht => ?_
      · refine EvP.ifT ⟨by omega, by have := hj; unfold refs at this; omega⟩ (EvP.bind1 (unmarked_ev hv hL.di.len hm.1 hm.2) ?_)
        dsimp only
        refine EvP.iteD (fun hb => ?_) fun hb => EvP.ret ⟨rfl, rfl, hL.di, hL.mono, hL.sub, hL.new, hL.ov, ?_, hL.meas, hL.room⟩
        · obtain ⟨hlive, hun⟩ := (live_iff hm.1 hm.2).1 hb
          refine EvP.ifT ⟨hm.1, by rw [hL.di.len]; omega⟩ ?_
          have hlen1 : (wr m1 (refs v' i)[j] true).length = 32 := by rw [wr_len, hL.di.len]
          have hu := unm_wr hm.1 (by rw [hL.di.len]; omega) hun
          have hu1 := unm_le m1
          have hrw : ∀ x, 0 ≤ x → rd (wr m1 (refs v' i)[j] true) x = if x = (refs v' i)[j] then true else rd m1 x := fun x hx => rd_wr hm.1 (by rw [hL.di.len]; omega) hx
          have hsound : ∀ x, 0 ≤ x → x ≤ 31 → rd (wr m1 (refs v' i)[j] true) x = true → Rch v' root x := fun x h0 h1 hx => by
            rw [hrw x h0] at hx
            by_cases e : x = (refs v' i)[j]
            · rw [e]; exact .step hRi (List.getElem_mem hj) hlive
            · rw [if_neg e] at hx; exact hL.di.sound x h0 h1 hx
          have hmono : ∀ x, 0 ≤ x → rd m1 x = true → rd (wr m1 (refs v' i)[j] true) x = true := fun x h0 hx => by
            rw [hrw x h0]; split
            · rfl
            · exact hx
          have hrefs : ∀ y ∈ (refs v' i).take (j + 1), Live v' y → rd (wr m1 (refs v' i)[j] true) y = true := fun y hy hly => by
            rw [take_step' hj] at hy
            rcases List.mem_append.1 hy with hy | hy
            · exact hmono y hly.1 (hL.rf y hy hly)
            · have : y = (refs v' i)[j] := by simpa using hy
              rw [hrw y hly.1, if_pos this]
          have hmeas := hL.meas
          unfold impl_marker_put.f
          refine EvP.bind (Q := fun t => t.1 = v' ∧ t.2.2.2.1 = most' ∧ LI v' root m s0 over most' i (j + 1) t.2.1 t.2.2.1 t.2.2.2.2) ?_ fun t ht => EvP.ret ht
          refine EvP.ite (fun hfull => EvP.ret ⟨rfl, rfl, ⟨hlen1, hsound, fun x hx => ?_⟩, ?_, hL.sub, ?_, fun _ => rfl, hrefs, by dsimp only; omega, ?_⟩) fun hfree => EvP.ifT (by omega) (EvP.ret ⟨rfl, rfl, ⟨hlen1, hsound, fun x hx => ?_⟩, ?_, ?_, ?_, hL.ov, hrefs, by simp; omega, ?_⟩)
          · have := hL.di.stk x hx; exact ⟨this.1, this.2.1, hmono x this.1 this.2.2⟩
          · exact fun x h0 h1 hx => hmono x h0 (hL.mono x h0 h1 hx)
          · exact fun _ _ _ _ _ => .inr rfl
          · intro h1 h2
            have h3 := hL.room h1 h2
            have h4 : most' ≤ (s1.length : Int) := by simpa using hfull
            omega
          · rcases List.mem_append.1 hx with hx | hx
            · have := hL.di.stk x hx; exact ⟨this.1, this.2.1, hmono x this.1 this.2.2⟩
            · have e : x = (refs v' i)[j] := by simpa using hx
              subst e
              exact ⟨hm.1, hm.2, by rw [hrw _ hm.1, if_pos rfl]⟩
          · exact fun x h0 h1 hx => hmono x h0 (hL.mono x h0 h1 hx)
          · exact fun x hx => List.mem_append.2 (.inl (hL.sub x hx))
          · intro x h0 h1 hx hx2
            rw [hrw x h0] at hx
            by_cases e : x = (refs v' i)[j]
            · exact .inl (List.mem_append.2 (.inr (by simp [e])))
            · rw [if_neg e] at hx
              exact (hL.new x h0 h1 hx hx2).elim (fun h => .inl (List.mem_append.2 (.inl h))) .inr
          · intro h1 h2
            have h3 := hL.room h1 h2
            exact ⟨h3.1, by simp; omega⟩
        · intro y hy hly
          rw [take_step' hj] at hy
          rcases List.mem_append.1 hy with hy | hy
          · exact hL.rf y hy hly
          · have e : y = (refs v' i)[j] := by simpa using hy
            subst e
            cases hh : rd m1 (refs v' i)[j] with
            | true => rfl
            | false => have := (live_iff hm.1 hm.2).2 ⟨hly, hh⟩; rw [hb] at this; cases this
      · rw [w64_succ hj (by omega)]
        exact ih2 t ht
    · rintro ⟨v', m1, s1, most', over1⟩ d ⟨h1, h2, hL⟩
      dsimp only at h1 h2 hL ⊢
      subst h1 h2
      simp only [impl_marker_drain.l1, e1, e2]
      refine EvP.ifF (by simp [refs]) ?_
      have hmeas := hL.meas
      refine EvP.shift (f := fun k => impl_marker_drain.l2 k v' m1 s1 most' over1) ((ih (by omega) (by omega) hL.di).mono ?_) d
      rintro r ⟨m', over', rfl, hD⟩
      refine ⟨m', over', rfl, hD.len, hD.sound, fun x h0 h1 hx => hD.mono x h0 h1 (hL.mono x h0 h1 hx), ?_, ?_, fun h => hD.ov (hL.ov h), ?_, by simp⟩
      · intro x hx
        rcases List.mem_append.1 hx with hx | hx
        · exact hD.done x (hL.sub x hx)
        · have e : x = i := by simpa using hx
          subst e
          intro y hy hly
          exact hD.mono y hly.1 hly.2.1 (hL.rf y (by rw [List.take_length]; exact hy) hly)
      · intro x h0 h1 hx hx2
        cases hh : rd m1 x with
        | true => exact (hL.new x h0 h1 hh hx2).elim (fun h => .inl (hD.done x h)) fun h => .inr (hD.ov h)
        | false => exact hD.new x h0 h1 hx hh
      · intro h1 h2
        have h3 := hL.room (by simp at h1; omega) h2
        rw [hD.room (by simp at h1; omega) h2, h3.1]
end Go.Proofs.Ytplgbgcfgnobdaa
