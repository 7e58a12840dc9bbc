/- A page comes back of its bytes: put and got. Conditions: none. -/
import Derived.Test.YtocknibhajihmaaKwB4M
set_option linter.unusedVariables false
set_option linter.unusedSimpArgs false
namespace Go.Proofs.Ytocknibhajihmaa
open Go.Kw

theorem pageB_ok {p : TPage} (h : pageB p = true) : okP p.Lsn ∧ ∀ s ∈ p.Slots, slotP s := by
  unfold pageB at h
  simp only [Bool.and_eq_true, List.all_eq_true] at h
  exact ⟨inB_ok h.1 (by omega) (by omega), fun s hs => h.2 s hs⟩
theorem inner_len {p : TPage} (h : pageB p = true) (h4 : p.Slots.length = 4) : (inner p).length ≤ 400 := by
  obtain ⟨h1, h2⟩ := pageB_ok h
  have k1 := enc_len h1
  have k2 := flat_len encSlot 84 p.Slots fun x hx => slot_len (h2 x hx)
  unfold inner
  rw [List.length_append]; omega
theorem inner_wf {p : TPage} (h : pageB p = true) : wfB (inner p) := by
  obtain ⟨h1, h2⟩ := pageB_ok h
  exact wfB_app (enc_wf h1) (wfB_flat _ _ fun x hx => slot_wf (h2 x hx))
theorem putPage_no {p : TPage} (hg : gPage p) (h : pageB p = false) : EvP (fun k => impl_PutPage.f k p) (· = []) := by
  unfold impl_PutPage.f
  exact EvP.bind1 (PageOk_ev hg) (EvP.ifT (by rw [h]; rfl) (EvP.ret rfl))
theorem flat_loop_slots {p : TPage} (h4 : p.Slots.length = 4) (h2 : ∀ s ∈ p.Slots, slotP s) (xs : List Int) (hx : xs.length ≤ 100000) : EvP (fun k => impl_PutPage.l1 p k xs 0) (· = xs ++ p.Slots.flatMap encSlot) := by
  refine for_up (fun k (s : List Int) i => impl_PutPage.l1 p k s i) 4 (fun i s => s = xs ++ (p.Slots.take i).flatMap encSlot) _ ?_ ?_ (i := 0) (s := xs) (Nat.zero_le _) (by simp)
  · intro i s hi hI ih
    have hi2 : i < p.Slots.length := by omega
    have hlen : s.length ≤ 1000000 := by
      have h1 := flat_len encSlot 84 (p.Slots.take i) fun x hx => slot_len (h2 x (List.mem_of_mem_take hx))
      rw [List.length_take] at h1
      rw [hI, List.length_append]; omega
    simp only [impl_PutPage.l1]
    refine EvP.ifT (by simp only [decide_eq_true_eq]; omega) (EvP.ifT (by omega) ?_)
    rw [rd_eq hi2, w64_succ hi (by omega)]
    refine EvP.bind1 (putSlot_ev (s := p.Slots[i]) (by omega) (h2 _ (List.getElem_mem hi2))) (ih _ ?_)
    rw [hI, List.take_succ_eq_append_getElem hi2, List.flatMap_append]
    simp
  · intro s hI
    rw [List.take_of_length_le (by omega)] at hI
    simp only [impl_PutPage.l1]
    exact EvP.ifF (by simp) (EvP.ret hI)
theorem putPage_ev {p : TPage} (hg : gPage p) (h : pageB p = true) : ∃ S : List Int, (S.length = 4 ∧ wfB S) ∧ EvP (fun k => impl_sumBytes.f k (inner p)) (· = S) ∧ EvP (fun k => impl_PutPage.f k p) (· = enc ((inner p).length : Int) ++ inner p ++ S) := by
  have h4 : p.Slots.length = 4 := hg.1.1
  obtain ⟨h1, h2⟩ := pageB_ok h
  obtain ⟨S, hS, hs, hf⟩ := frame_ev (b := inner p) (by have := inner_len h h4; omega)
  refine ⟨S, hS, hs, ?_⟩
  have k1 := enc_len h1
  unfold impl_PutPage.f impl_PutPage.c1
  refine EvP.bind1 (PageOk_ev hg) (EvP.ifF (by rw [h]; simp) (EvP.bind1 (putInt_ev (by simp) h1) (EvP.bind1 (a := inner p) ?_ (EvP.bind1 hf (EvP.ret rfl)))))
  refine EvP.mono (flat_loop_slots (p := p) h4 h2 ([] ++ enc p.Lsn) (by simp; omega)) fun r hr => by rw [hr]; unfold inner; simp
theorem equal_ev (xs : List Int) (hl : xs.length ≤ 1048576) : EvP (fun k => slices_Equal.f k xs xs) (· = true) := by
  unfold slices_Equal.f slices_Equal.c1
  refine EvP.ifF (by simp) (EvP.bind1 (a := Ex.go ()) ?_ (EvP.ret rfl))
  refine all_up (fun k i => slices_Equal.l1 xs xs k i) xs.length _ ?_ ?_
  · intro i hi ih
    simp only [slices_Equal.l1, rd_eq hi]
    refine EvP.ifT (by simpa using hi) (EvP.ifT (by omega) (EvP.ifT (by omega) (EvP.ifF (by simp) ?_)))
    rw [w64_succ hi (by omega)]; exact ih
  · simp only [slices_Equal.l1]
    exact EvP.ifF (by simp) (EvP.ret rfl)
theorem unframe_ev {P S : List Int} (hP : P.length ≤ 100000) (hw : wfB P) (hS : S.length = 4) (hw2 : wfB S) (hs : EvP (fun k => impl_sumBytes.f k P) (· = S)) :
    EvP (fun k => impl_Unframe.f k (enc (P.length : Int) ++ P ++ S) 0) (· = (P, ((enc (P.length : Int) ++ P ++ S).length : Int), 0)) := by
  have hk := ok_nat (n := P.length) (by omega)
  have hek := enc_len hk
  have hF : wfB (enc (P.length : Int) ++ P ++ S) := wfB_app (wfB_app (enc_wf hk) hw) hw2
  have hlen : (enc (P.length : Int) ++ P ++ S).length = (enc (P.length : Int)).length + P.length + 4 := by rw [List.length_append, List.length_append, hS]
  have hd : dec ((enc (P.length : Int) ++ P ++ S).drop 0) = some ((P.length : Int), (enc (P.length : Int)).length) := by
    rw [List.drop_zero, List.append_assoc]; exact dec_enc hk _
  have hdn : decN 6 ((enc (P.length : Int) ++ P ++ S).drop 0) = some (zig (P.length : Int), (enc (P.length : Int)).length) := by
    rw [List.drop_zero, List.append_assoc]; exact decN_enc 5 _ _ (Nat.lt_trans (zig_lt hk) (by decide))
  have hc1 : ((enc (P.length : Int) ++ P ++ S).take ((enc (P.length : Int)).length + P.length)).drop (enc (P.length : Int)).length = P := by
    rw [List.drop_take, List.append_assoc, List.drop_left]
    have : (enc (P.length : Int)).length + P.length - (enc (P.length : Int)).length = P.length := by omega
    rw [this, List.take_left]
  have hc2 : ((enc (P.length : Int) ++ P ++ S).take ((enc (P.length : Int)).length + P.length + 4)).drop ((enc (P.length : Int)).length + P.length) = S := by
    rw [List.take_of_length_le (by omega), ← List.length_append, List.drop_left]
  generalize (enc (P.length : Int)).length = a at *
  generalize enc (P.length : Int) ++ P ++ S = F at *
  unfold impl_Unframe.f
  simp only [in_eq, Option.bind_some]
  have h0 : inB 0 0 (F.length : Int) = true := by simp [inB]
  rw [h0]
  refine EvP.ifF (by simp) (EvP.bind (Q := fun x => x.2.2.2 = false) ?_ fun x hx => ?_)
  · unfold impl_groups.f impl_groups.c1
    refine EvP.bind (groups_ev (p := 0) hF (by omega) (by omega) 6 0 0 rfl (by decide)) fun r hr => ?_
    unfold goodG at hr
    rw [Nat.add_zero, hdn] at hr
    dsimp only at hr
    rw [hr]
    exact EvP.ret rfl
  · refine EvP.ifF (by simp [hx]) (EvP.bind1 (GetInt_ev (p := 0) hF (by omega) (by omega)) ?_)
    have hgi : GI F 0 = ((P.length : Int), ((a : Nat) : Int), true) := by unfold GI; rw [hd]; simp
    rw [hgi]
    dsimp only
    have e1 : w64 ((F.length : Int) - (a : Int)) = ((P.length + 4 : Nat) : Int) := by rw [w64_id (by omega) (by omega)]; omega
    have e2 : w64 ((P.length : Int) + 4) = ((P.length + 4 : Nat) : Int) := by rw [w64_id (by omega) (by omega)]; omega
    have e3 : w64 ((a : Int) + (P.length : Int)) = ((a + P.length : Nat) : Int) := by rw [w64_id (by omega) (by omega)]; omega
    have e4 : w64 (((a + P.length : Nat) : Int) + 4) = ((a + P.length + 4 : Nat) : Int) := by rw [w64_id (by omega) (by omega)]; omega
    rw [e1, e2, e3, e4]
    have c1 : cut F (a : Int) ((a + P.length : Nat) : Int) = P := hc1
    have c2 : cut F ((a + P.length : Nat) : Int) ((a + P.length + 4 : Nat) : Int) = S := hc2
    rw [c1, c2]
    refine EvP.ifF (by simp) (EvP.ifF (by simp) (EvP.ifT (by omega) (EvP.ifT (by omega) (EvP.bind1 hs (EvP.bind1 (equal_ev S (by omega)) (EvP.ifF (by simp) (EvP.ifT (by omega) (EvP.bind1 (a := P) ?_ (EvP.ret ?_)))))))))
    · unfold slices_Clone_150.f
      exact EvP.ifT (by simp; omega) (EvP.ret rfl)
    · rw [hlen]
theorem slots_loop {p : TPage} {P : List Int} (hw : wfB P) (hl : P.length ≤ 100000) (h4 : p.Slots.length = 4) (h2 : ∀ s ∈ p.Slots, slotP s) (q : Nat) (hq : q ≤ P.length) (hd : P.drop q = p.Slots.flatMap encSlot) :
    EvP (fun k => impl_GetPage.l1 k zv_47 P (q : Int) false 0) (· = (p.Slots, P, (P.length : Int), false)) := by
  refine for_up (fun k (s : List TSlot × List Int × Int × Bool) i => impl_GetPage.l1 k s.1 s.2.1 s.2.2.1 s.2.2.2 i) 4 (fun i s => s.1.length = 4 ∧ s.1.take i = p.Slots.take i ∧ s.2.1 = P ∧ s.2.2.2 = false ∧ ∃ q : Nat, q ≤ P.length ∧ s.2.2.1 = (q : Int) ∧ P.drop q = (p.Slots.drop i).flatMap encSlot) _ ?_ ?_ (i := 0) (s := (zv_47, P, (q : Int), false)) (Nat.zero_le _) ⟨rfl, by simp, rfl, rfl, q, hq, rfl, hd⟩
  · intro i s hi hI ih
    obtain ⟨s1, s2, s3, s4⟩ := s
    obtain ⟨g1, g2, g3, g4, q, g5, g6, g7⟩ := hI
    dsimp only at g1 g2 g3 g4 g6
    subst g3; subst g4; subst g6
    have hi2 : i < p.Slots.length := by omega
    simp only [impl_GetPage.l1]
    refine EvP.ifT (by simp only [decide_eq_true_eq]; omega) (EvP.bind (slot_ev hw (by omega) g5 false) fun r hr => EvP.ifT (by omega) ?_)
    obtain ⟨a1, q', a2, a3, a4, a5, a6⟩ := hr
    have e1 : s2.drop q = encSlot p.Slots[i] ++ (p.Slots.drop (i + 1)).flatMap encSlot := by
      rw [g7, List.drop_eq_getElem_cons hi2, List.flatMap_cons]
    obtain ⟨b1, b2, b3⟩ := a6 rfl _ _ (h2 _ (List.getElem_mem hi2)) e1
    have e2 := drop_app e1
    rw [← b3] at e2
    rw [w64_succ hi (by omega)]
    refine ih (wr s1 (i : Int) r.1, r.2.1, r.2.2.1, r.2.2.2) ⟨by rw [wr_len]; exact g1, ?_, a1, b1, q', a3, a2, e2⟩
    show (wr s1 (i : Int) r.1).take (i + 1) = _
    rw [wr_take_self (by omega), g2, b2, List.take_succ_eq_append_getElem hi2]
  · intro s hI
    obtain ⟨s1, s2, s3, s4⟩ := s
    obtain ⟨g1, g2, g3, g4, q, g5, g6, g7⟩ := hI
    dsimp only at g1 g2 g3 g4 g6
    subst g3; subst g4; subst g6
    simp only [impl_GetPage.l1]
    refine EvP.ifF (by simp) (EvP.ret ?_)
    rw [List.take_of_length_le (by omega), List.take_of_length_le (by omega)] at g2
    have h5 := congrArg List.length g7
    rw [List.length_drop, List.drop_eq_nil_of_le (by omega)] at h5
    simp at h5
    have : q = s2.length := by omega
    rw [g2, this]
theorem getPage_ev {p : TPage} (hg : gPage p) (h : pageB p = true) {S : List Int} (hS : S.length = 4) (hw2 : wfB S) (hs : EvP (fun k => impl_sumBytes.f k (inner p)) (· = S)) :
    EvP (fun k => impl_GetPage.f k (enc ((inner p).length : Int) ++ inner p ++ S)) (· = (p, true)) := by
  have h4 : p.Slots.length = 4 := hg.1.1
  obtain ⟨h1, h2⟩ := pageB_ok h
  have hil := inner_len h h4
  have hiw := inner_wf h
  unfold impl_GetPage.f
  refine EvP.bind1 (unframe_ev (by omega) hiw hS hw2 hs) (EvP.ifF (by simp) (EvP.bind (one_ev (p := 0) hiw (by omega) (by omega) false) fun r hr => ?_))
  obtain ⟨a1, q, a2, a3, a4, a5, a6⟩ := hr
  have e1 : (inner p).drop 0 = enc p.Lsn ++ p.Slots.flatMap encSlot := rfl
  obtain ⟨b1, b2, b3⟩ := a6 rfl _ _ h1 e1
  have e2 := drop_app e1
  rw [← b3] at e2
  rw [a1, a2, b1]
  refine EvP.bind1 (slots_loop hiw (by omega) h4 h2 q a3 e2) ?_
  unfold impl_GetPage.c2 impl_reader_done.f impl_reader_done.c1 impl_GetPage.c1
  rw [b2]
  exact EvP.bind1 (a := (true, inner p, ((inner p).length : Int), false)) (EvP.bind1 (a := true) (EvP.ifT rfl (EvP.ret (by simp))) (EvP.ret rfl)) (EvP.bind1 (a := false) (EvP.ifF (by simp) (EvP.bind1 (PageOk_ev hg) (EvP.ret (by show (!pageB p) = false; rw [h]; rfl)))) (EvP.ifF (by simp) (EvP.ret rfl)))
end Go.Proofs.Ytocknibhajihmaa
