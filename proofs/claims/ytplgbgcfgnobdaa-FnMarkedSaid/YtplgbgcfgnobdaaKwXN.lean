/- The plain law: marks of a drawn view are what is reached. Conditions: none. -/
import Derived.Test.YtplgbgcfgnobdaaKwXM
set_option linter.unusedVariables false
set_option linter.unusedSimpArgs false
namespace Go.Proofs.Ytplgbgcfgnobdaa
open Go.Kw
open Classical

def Some' (v : List TSlot) (m : List Bool) (ys : List Int) : Prop := ∃ y ∈ ys, Live v y ∧ rd m y = false
theorem containsU_ev {v : List TSlot} (hv : Vok v) {m : List Bool} (hm : m.length = 32) {s : List Int} {most : Int} {over : Bool} {ys : List Int} (hl : ys.length ≤ 5) (hy : ∀ y ∈ ys, 0 ≤ y ∧ y ≤ 31) :
    EvP (fun k => slices_ContainsFunc_unmarked25.f k ys v m s most over) (· = (decide (Some' v m ys), v, m, s, most, over)) := by
  unfold slices_ContainsFunc_unmarked25.f slices_IndexFunc_unmarked25.f slices_IndexFunc_unmarked25.c1
  have key : EvP (fun k => slices_IndexFunc_unmarked25.l1 ys k v m s most over 0) (fun r => (∃ j : Nat, r = Ex.ret ((j : Int), v, m, s, most, over) ∧ Some' v m ys) ∨ (r = Ex.go (v, m, s, most, over) ∧ ¬ Some' v m ys)) := by
    have := for_up (fun k (t : List TSlot × List Bool × List Int × Int × Bool) i => slices_IndexFunc_unmarked25.l1 ys k t.1 t.2.1 t.2.2.1 t.2.2.2.1 t.2.2.2.2 i) ys.length
      (fun i t => t = (v, m, s, most, over) ∧ ¬ Some' v m (ys.take i)) (fun r => (∃ j : Nat, r = Ex.ret ((j : Int), v, m, s, most, over) ∧ Some' v m ys) ∨ (r = Ex.go (v, m, s, most, over) ∧ ¬ Some' v m ys)) ?_ ?_
      (i := 0) (s := (v, m, s, most, over)) (Nat.zero_le _) ⟨rfl, fun ⟨y, hy, _⟩ => by simp at hy⟩
    · exact this
    · rintro i t hi ⟨rfl, hI⟩ ih
      dsimp only at ih ⊢
      simp only [slices_IndexFunc_unmarked25.l1]
      have h1 := hy _ (List.getElem_mem hi)
      refine EvP.ifT (by simpa using hi) (EvP.ifT ⟨by omega, by omega⟩ ?_)
      rw [rd_eq hi]
      refine EvP.bind1 (unmarked_ev hv hm h1.1 h1.2) (EvP.iteD (fun hb => EvP.ret (.inl ⟨i, rfl, _, List.getElem_mem hi, (live_iff h1.1 h1.2).1 hb⟩)) fun hb => ?_)
      rw [w64_succ hi (by omega)]
      refine ih _ ⟨rfl, ?_⟩
      rintro ⟨y, hy', h3⟩
      rw [take_step' hi] at hy'
      rcases List.mem_append.1 hy' with hy' | hy'
      · exact hI ⟨y, hy', h3⟩
      · have e : y = ys[i] := by simpa using hy'
        rw [e] at h3
        have := (live_iff h1.1 h1.2).2 h3
        dsimp only at hb
        rw [hb] at this; cases this
    · rintro t ⟨rfl, hI⟩
      dsimp only
      simp only [slices_IndexFunc_unmarked25.l1]
      refine EvP.ifF (by simp) (EvP.ret (.inr ⟨rfl, ?_⟩))
      rwa [List.take_length] at hI
  refine EvP.bind (Q := fun r => ∃ a : Int, r = (a, v, m, s, most, over) ∧ (0 ≤ a ↔ Some' v m ys)) (EvP.bind key ?_) fun r hr => ?_
  · rintro r (⟨j, rfl, h⟩ | ⟨rfl, h⟩)
    · exact EvP.ret ⟨_, rfl, by simp [h]⟩
    · exact EvP.ret ⟨_, rfl, by simp [h]⟩
  · obtain ⟨a, rfl, ha⟩ := hr
    exact EvP.ret (by simp [ha])

/-- What looking through the marks anew puts on the stack. -/
structure RI (v : List TSlot) (m : List Bool) (j : Nat) (s : List Int) (over : Bool) : Prop where
  stk : ∀ x ∈ s, 0 ≤ x ∧ x ≤ 31 ∧ rd m x = true ∧ Some' v m (refs v x)
  len : s.length ≤ j
  all : ∀ i, 0 ≤ i → i < (j : Int) → rd m i = true → Done v m i ∨ i ∈ s ∨ over = true
  nil : s = [] → over = false
theorem rescan_ev {v : List TSlot} (hv : Vok v) {m : List Bool} (hm : m.length = 32) {most : Int} (h1 : 1 ≤ most) {cnt : Int} (hc0 : 0 ≤ cnt) (hc : cnt ≤ 1000) :
    EvP (fun k => impl_Mark.l2 m v cnt k v m [] most false 0) (fun r => ∃ s over, r = (v, m, s, most, over, cnt + 1) ∧ RI v m 32 s over) := by
  have := for_up (fun k (t : List TSlot × List Bool × List Int × Int × Bool) i => impl_Mark.l2 m v cnt k t.1 t.2.1 t.2.2.1 t.2.2.2.1 t.2.2.2.2 i) 32
    (fun i t => t.1 = v ∧ t.2.1 = m ∧ t.2.2.2.1 = most ∧ RI v m i t.2.2.1 t.2.2.2.2) (fun r => ∃ s over, r = (v, m, s, most, over, cnt + 1) ∧ RI v m 32 s over) ?_ ?_
    (i := 0) (s := (v, m, [], most, false)) (by decide) ⟨rfl, rfl, rfl, by simp, by simp, fun i h0 h => by omega, fun _ => rfl⟩
  · exact this
  · rintro i ⟨v', m', s, most', over⟩ hi ⟨e1, e2, e3, hI⟩ ih
    dsimp only at e1 e2 e3 hI ih ⊢
    subst e1 e2 e3
    simp only [impl_Mark.l2, impl_Mark.c3]
    have hro := refs_ok hv (x := (i : Int)) (by omega) (by omega)
    refine EvP.ifT (by rw [hm]; simp; omega) (EvP.bind (Q := fun t => t.1 = v' ∧ t.2.1 = m' ∧ t.2.2.2.1 = most' ∧ RI v' m' (i + 1) t.2.2.1 t.2.2.2.2) (EvP.ifT ⟨by omega, by rw [hm]; omega⟩ ?_) fun t ht => ?_)
    · refine EvP.bind (Q := fun t => ∃ b, t = (v', m', s, most', over, b) ∧ (b = true ↔ rd m' (i : Int) = true ∧ Some' v' m' (refs v' (i : Int)))) ?_ fun t ht => ?_
      · refine EvP.iteD (fun hb => EvP.ifT ⟨by omega, by rw [hv.1]; omega⟩ ?_) fun hb => EvP.ret ⟨false, rfl, by simp [hb]⟩
        refine EvP.bind1 (containsU_ev hv hm hro.1 hro.2) (EvP.ret ⟨_, rfl, ?_⟩)
        simp [hb, refs]
      · obtain ⟨b, rfl, hb⟩ := ht
        simp only [impl_Mark.c4]
        have hnot : ¬ Some' v' m' (refs v' (i : Int)) → Done v' m' (i : Int) := fun hn y hy hly => by
          cases hh : rd m' y with
          | true => rfl
          | false => exact absurd ⟨y, hy, hly, hh⟩ hn
        refine EvP.iteD (fun h => ?_) fun h => EvP.ret ⟨rfl, rfl, rfl, hI.stk, by have := hI.len; dsimp only; omega, fun x h0 hx hmx => ?_, hI.nil⟩
        · unfold impl_marker_put.f
          have hs := hI.len
          refine EvP.bind (Q := fun t => t.1 = v' ∧ t.2.1 = m' ∧ t.2.2.2.1 = most' ∧ RI v' m' (i + 1) t.2.2.1 t.2.2.2.2) ?_ fun t ht => EvP.ret ht
          refine EvP.ite (fun hfull => EvP.ret ⟨rfl, rfl, rfl, hI.stk, by dsimp only; omega, fun _ _ _ _ => .inr (.inr rfl), fun hn => ?_⟩) fun hfree => EvP.ifT (by omega) (EvP.ret ⟨rfl, rfl, rfl, fun x hx => ?_, by simp; omega, fun x h0 hx hmx => ?_, fun hn => by simp at hn⟩)
          · dsimp only at hn; subst hn; simp at hfull; omega
          · rcases List.mem_append.1 hx with hx | hx
            · exact hI.stk x hx
            · have e : x = (i : Int) := by simpa using hx
              subst e; exact ⟨by omega, by omega, hb.1 h⟩
          · by_cases e : x = (i : Int)
            · exact .inr (.inl (List.mem_append.2 (.inr (by simp [e]))))
            · rcases hI.all x h0 (by omega) hmx with h3 | h3 | h3
              · exact .inl h3
              · exact .inr (.inl (List.mem_append.2 (.inl h3)))
              · exact .inr (.inr h3)
        · by_cases e : x = (i : Int)
          · subst e
            refine .inl (hnot fun hs => ?_)
            have := hb.2 ⟨hmx, hs⟩
            rw [h] at this; cases this
          · exact hI.all x h0 (by omega) hmx
    · rw [w64_succ hi (by decide)]
      exact ih t ht
  · rintro ⟨v', m', s, most', over⟩ ⟨e1, e2, e3, hI⟩
    dsimp only at e1 e2 e3 hI ⊢
    subst e1 e2 e3
    simp only [impl_Mark.l2]
    refine EvP.ifF (by rw [hm]; simp) (EvP.ret ⟨s, over, ?_, hI⟩)
    rw [w64_id (by omega) (by omega)]

/-- Between two looks. -/
structure MI (v : List TSlot) (root : Int) (m : List Bool) (over : Bool) : Prop where
  len : m.length = 32
  sound : ∀ i, 0 ≤ i → i ≤ 31 → rd m i = true → Rch v root i
  root : Live v root → rd m root = true
  closed : ∀ i, 0 ≤ i → i ≤ 31 → rd m i = true → Done v m i ∨ over = true
theorem MI.marks {v : List TSlot} {root : Int} {m : List Bool} (h : MI v root m false) : Marks v root m := by
  refine ⟨h.len, fun i h0 h1 => ⟨h.sound i h0 h1, fun hr => ?_⟩⟩
  clear h0 h1
  induction hr with
  | root hl => exact h.root hl
  | step hx hy hl ih => exact (h.closed _ hx.live.1 hx.live.2.1 ih).elim (fun h => h _ hy hl) fun h => by cases h
theorem rounds_ev {v : List TSlot} (hv : Vok v) {root : Int} {most : Int} (hm1 : 1 ≤ most) : ∀ (n : Nat) {m : List Bool} {over : Bool} {cnt : Int}, MI v root m over → (over = true → unm m < n) → 0 ≤ cnt → cnt + n ≤ 100 →
    EvP (fun k => impl_Mark.l1 v k v m [] most over cnt) (fun r => Marks v root r.2.1 ∧ 0 ≤ r.2.2.2.2.2 ∧ (over = false → r.2.2.2.2.2 = cnt)) := by
  intro n
  induction n with
  | zero =>
    intro m over cnt hI ho hc0 hc
    cases over with
    | true => exact absurd (ho rfl) (by omega)
    | false =>
      refine EvP.succ ?_
      simp only [impl_Mark.l1]
      exact EvP.ifF (by simp) (EvP.ret ⟨hI.marks, hc0, fun _ => rfl⟩)
  | succ n ih =>
    intro m over cnt hI ho hc0 hc
    cases over with
    | false =>
      refine EvP.succ ?_
      simp only [impl_Mark.l1]
      exact EvP.ifF (by simp) (EvP.ret ⟨hI.marks, hc0, fun _ => rfl⟩)
    | true =>
      refine EvP.succ ?_
      simp only [impl_Mark.l1]
      refine EvP.ifT (by simp) (EvP.bind (Q := fun r => ∃ s over, r = (v, m, s, most, over, cnt + 1) ∧ RI v m 32 s over) ?_ ?_)
      · refine EvP.bind1 (a := m) ?_ (rescan_ev hv hI.len hm1 hc0 (by omega))
        unfold slices_Clone.f
        exact EvP.ifT (by simp [hI.len]) (EvP.ret rfl)
      · rintro r ⟨s, over1, rfl, hR⟩
        dsimp only
        simp only [impl_Mark.c2]
        unfold impl_marker_drain.f
        have hu := unm_le m
        have hsl := hR.len
        have hlen := hI.len
        refine EvP.bind (drain_ev hv (root := root) 500 (by omega) (by decide) ⟨hI.len, hI.sound, fun x hx => let h := hR.stk x hx; ⟨h.1, h.2.1, h.2.2.1⟩⟩) ?_
        rintro r ⟨m', over', rfl, hD⟩
        dsimp only
        have hMI : MI v root m' over' := by
          refine ⟨hD.len, hD.sound, fun hl => hD.mono _ hl.1 hl.2.1 (hI.root hl), fun i h0 h1 hi => ?_⟩
          cases hh : rd m i with
          | false => exact hD.new i h0 h1 hi hh
          | true =>
            rcases hR.all i h0 (by omega) hh with h | h | h
            · exact .inl fun y hy hly => hD.mono y hly.1 hly.2.1 (h y hy hly)
            · exact .inl (hD.done i h)
            · exact .inr (hD.ov h)
        refine (ih hMI ?_ (by omega) (by omega)).mono fun r hr => ⟨hr.1, hr.2.1, fun h => by cases h⟩
        intro ho'
        have hlt : unm m' < unm m := by
          cases s with
          | nil =>
            have h1 := hR.nil rfl
            have h2 := (hD.nil rfl).2
            rw [ho', h1] at h2; cases h2
          | cons x s =>
            obtain ⟨_, _, _, y, hy, hly, hny⟩ := hR.stk x (by simp)
            exact unm_lt hI.len hD.len hD.mono hly.1 hly.2.1 hny (hD.done x (by simp) y hy hly)
        have := ho rfl
        omega
theorem Mark_ev {v : List TSlot} (hv : Vok v) {root : Int} (h0 : 1 ≤ root) (h1 : root ≤ 31) {most : Int} (hm1 : 1 ≤ most) (hm2 : most ≤ 40) :
    EvP (fun k => impl_Mark.f k v root most) (fun r => Marks v root r.1 ∧ 0 ≤ r.2 ∧ (33 ≤ most → r.2 = 0)) := by
  unfold impl_Mark.f impl_Mark.c7
  refine EvP.bind1 (ViewOk_ev hv) (EvP.bind1 (a := false) (EvP.ifF (by simp) ?_) ?_)
  · simp only [isOid_eq, Option.bind_some, notOid h0 h1]; exact EvP.ret rfl
  refine EvP.bind1 (a := false) (EvP.ifF (by simp) ?_) ?_
  · simp only [in_eq, Option.bind_some]; exact EvP.ret (by simp [hm1, hm2])
  unfold impl_Mark.c6
  have hrep : (List.replicate (32 : Int).toNat false).length = 32 := by simp
  have hu := unm_le (List.replicate (32 : Int).toNat false)
  refine EvP.ifF (by simp) (EvP.bind (Q := fun t => ∃ m s, t = (v, m, s, most, false) ∧ DI v root m s ∧ (Live v root → rd m root = true) ∧ (∀ i, 0 ≤ i → i ≤ 31 → rd m i = true → i ∈ s) ∧ s.length + unm m ≤ 32) (EvP.ifT ⟨by omega, by rw [hv.1]; omega⟩ ?_) ?_)
  · refine EvP.iteD (fun hb => EvP.ifT ⟨by omega, by rw [hrep]; omega⟩ ?_) fun hb => EvP.ret ⟨_, [], rfl, ⟨hrep, fun i _ _ h => ?_, by simp⟩, fun hl => ?_, fun i _ _ h => ?_, ?_⟩
    · unfold impl_marker_put.f
      have hw := unm_wr (m := List.replicate (32 : Int).toNat false) (i := root) (by omega) (by rw [hrep]; omega) (rd_rep _ _)
      have hrw : ∀ x, 0 ≤ x → rd (wr (List.replicate (32 : Int).toNat false) root true) x = if x = root then true else false := fun x hx => by
        rw [rd_wr (by omega) (by rw [hrep]; omega) hx, rd_rep]
      refine EvP.bind (Q := fun t => ∃ m s, t = (v, m, s, most, false) ∧ DI v root m s ∧ (Live v root → rd m root = true) ∧ (∀ i, 0 ≤ i → i ≤ 31 → rd m i = true → i ∈ s) ∧ s.length + unm m ≤ 32) (EvP.ifF (by simp; omega) (EvP.ifT (by simp) (EvP.ret ?_))) fun t ht => EvP.ret ht
      refine ⟨_, _, rfl, ⟨by rw [wr_len, hrep], fun i h2 h3 h4 => ?_, fun x hx => ?_⟩, fun hl => ?_, fun i h2 h3 h4 => ?_, ?_⟩
      · rw [hrw i h2] at h4
        by_cases e : i = root
        · rw [e]; exact .root ⟨by omega, h1, hb⟩
        · rw [if_neg e] at h4; cases h4
      · have e : x = root := by simpa using hx
        subst e; exact ⟨by omega, h1, by rw [hrw _ (by omega), if_pos rfl]⟩
      · rw [hrw _ (by omega), if_pos rfl]
      · rw [hrw i h2] at h4
        by_cases e : i = root
        · simp [e]
        · rw [if_neg e] at h4; cases h4
      · simp at hw hu ⊢; omega
    · rw [rd_rep] at h; cases h
    · rw [hl.2.2] at hb; cases hb
    · rw [rd_rep] at h; cases h
    · simp at hu ⊢; omega
  · rintro t ⟨m, s, rfl, hDI, hroot, hin, hroom⟩
    unfold impl_Mark.c5 impl_marker_drain.f
    dsimp only
    refine EvP.bind (Q := fun r => Marks v root r.2.1 ∧ 0 ≤ r.2.2.2.2.2 ∧ (33 ≤ most → r.2.2.2.2.2 = 0)) (EvP.bind (drain_ev hv (root := root) 500 (by omega) (by decide) hDI) ?_) fun r hr => EvP.ret hr
    rintro r ⟨m', over', rfl, hD⟩
    dsimp only
    have hMI : MI v root m' over' := ⟨hD.len, hD.sound, fun hl => hD.mono _ hl.1 hl.2.1 (hroot hl), fun i h0 h1 hi => by
      cases hh : rd m i with
      | false => exact hD.new i h0 h1 hi hh
      | true => exact .inl (hD.done i (hin i h0 h1 hh))⟩
    have hu' := unm_le m'
    have hlen' := hD.len
    exact (rounds_ev hv hm1 40 hMI (fun _ => by omega) (by decide) (by decide)).mono fun r hr => ⟨hr.1, hr.2.1, fun h33 => hr.2.2 (hD.room hroom h33)⟩
theorem laws_FnMarked.ok (xs : List Int) (hb : ∀ n ∈ xs, (Lit.int .u8 n).wf = true) : ∃ k, laws_FnMarked.f k xs = some true := by
  refine EvP.get ?_
  unfold laws_FnMarked.f
  refine EvP.bind1 (big_ev xs) (EvP.ite (fun _ => EvP.ret rfl) fun h => ?_)
  have hl : xs.length ≤ 1048576 := by simp at h; omega
  refine EvP.bind (Q := Vok) ?_ fun v hv => EvP.bind (at_ev hl hb (by decide) (by decide)) fun a ha => ?_
  · unfold spec_DrawHeap.f
    exact EvP.bind (l1New_ev hl) fun c hc => EvP.bind (draw_ev hl hc) fun r hr => EvP.ret hr
  obtain ⟨h0, h1⟩ := oid_range ha
  refine EvP.bind1 (Reach_ev hv h0 h1) (EvP.bind (at_ev hl hb (by decide) (by decide)) fun c hc => ?_)
  have hmost : 1 ≤ w64 (1 + c.tmod 5) ∧ w64 (1 + c.tmod 5) ≤ 40 := by
    have := tmod_range hc.1 (n := 5) (by decide)
    rw [w64_id (by omega) (by omega)]; omega
  refine EvP.bind (Mark_ev hv h0 h1 hmost.1 hmost.2) fun r1 hr1 => EvP.bind (Mark_ev hv h0 h1 (most := 40) (by decide) (by decide)) fun r2 hr2 => ?_
  have hz := hr2.2.2 (by decide)
  have hn := hr1.2.1
  refine EvP.ifF (by simp [hr1.1.1, hr2.1.1, hz]; omega) ?_
  have hrl := pickL_len (rchB v (w64 (1 + a.tmod 31))) 32
  have := for_up (fun k (s : Unit) i => laws_FnMarked.l1 r1 (reachL v (w64 (1 + a.tmod 31))) r2 k i) 32 (fun i _ => True) (· = Ex.go ()) ?_ ?_ (i := 0) (s := ()) (by decide) trivial
  · refine EvP.bind1 this ?_
    simp only [Ex.on]
    unfold laws_FnMarked.c1
    exact EvP.bind1 (ViewOk_ev hv) (EvP.ret rfl)
  · intro i s hi _ ih
    simp only [laws_FnMarked.l1, laws_FnMarked.c2]
    refine EvP.ifT (by rw [hr1.1.1]; simp; omega) (EvP.bind1 (a := false) (EvP.ifT ⟨by omega, by rw [hr1.1.1]; omega⟩ (EvP.bind1 (among_ev (by unfold reachL; omega) _) ?_)) ?_)
    · have e1 := hr1.1.eq hi
      have e2 := hr2.1.eq hi
      have e3 : decide ((i : Int) ∈ reachL v (w64 (1 + a.tmod 31))) = rchB v (w64 (1 + a.tmod 31)) i := by
        unfold reachL
        rw [Bool.eq_iff_iff]
        simp only [decide_eq_true_eq, mem_pickL]
        exact ⟨fun ⟨x, _, h2, h3⟩ => by obtain rfl : i = x := by omega
                                        exact h2, fun h => ⟨i, hi, h, rfl⟩⟩
      rw [e1, e2, e3]
      exact EvP.ifF (by simp) (EvP.ifT ⟨by omega, by rw [hr2.1.1]; omega⟩ (EvP.ifT ⟨by omega, by rw [hr1.1.1]; omega⟩ (EvP.ret (by simp))))
    · refine EvP.ifF (by simp) ?_
      rw [w64_succ hi (by decide)]
      exact ih () trivial
  · intro s _
    simp only [laws_FnMarked.l1]
    exact EvP.ifF (by rw [hr1.1.1]; simp) (EvP.ret rfl)
end Go.Proofs.Ytplgbgcfgnobdaa
