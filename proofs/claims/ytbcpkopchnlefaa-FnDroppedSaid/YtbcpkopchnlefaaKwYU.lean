/- The plain law of the locks: the reference's parts. Conditions: none. -/
import Derived.Test.YtbcpkopchnlefaaKwYS
set_option linter.unusedVariables false
set_option linter.unusedSimpArgs false
namespace Go.Proofs.Ytbcpkopchnlefaa
open Go.Kw

def hasM (gs : List TGrant) (tx res : Int) : Int := if gs.any (forB tx res) = true then (rd gs (fidx (forB tx res) gs)).Mode else 0
def sWouldM (gs : List TGrant) (g : TGrant) : Int := if hasM gs g.Tx g.Res = 0 then g.Mode else bothM (hasM gs g.Tx g.Res) g.Mode
/-- A loop that stops at the first hit, its test being a known Bool. -/
theorem first_ev {α ρ : Type} [Inhabited α] (L : Nat → Int → Option (Ex ρ Unit)) (xs : List α) (P : α → Bool) (V : Nat → ρ) (hlen : xs.length < 9223372036854775808)
    (hit : ∀ (i : Nat) (hi : i < xs.length), P xs[i] = true → EvP (fun k => L (k + 1) (i : Int)) (· = Ex.ret (V i)))
    (miss : ∀ (i : Nat) (hi : i < xs.length), P xs[i] = false → EvP (fun k => L k ((i + 1 : Nat) : Int)) (fun r => if xs.any P = true then r = Ex.ret (V (xs.findIdx P)) else r = Ex.go ()) → EvP (fun k => L (k + 1) (i : Int)) (fun r => if xs.any P = true then r = Ex.ret (V (xs.findIdx P)) else r = Ex.go ()))
    (stop : EvP (fun k => L (k + 1) (xs.length : Int)) (· = Ex.go ())) :
    EvP (fun k => L k 0) (fun r => if xs.any P = true then r = Ex.ret (V (xs.findIdx P)) else r = Ex.go ()) := by
  have := for_up (fun k (_ : Unit) i => L k i) xs.length (fun i _ => ∀ j (h : j < xs.length), j < i → P xs[j] = false) (fun r => if xs.any P = true then r = Ex.ret (V (xs.findIdx P)) else r = Ex.go ()) ?_ ?_ (i := 0) (s := ()) (Nat.zero_le _) (fun j _ h => absurd h (by omega))
  · exact this
  · intro i s hi hI ih
    cases hb : P xs[i] with
    | true =>
      have h1 : xs.any P = true := List.any_eq_true.2 ⟨_, List.getElem_mem _, hb⟩
      have h2 : xs.findIdx P = i := (List.findIdx_eq hi).2 ⟨hb, fun j hj => hI j (by omega) hj⟩
      refine (hit i hi hb).mono fun r hr => ?_
      rw [if_pos h1, h2]; exact hr
    | false =>
      refine miss i hi hb (ih () fun j h hj => ?_)
      rcases Nat.lt_or_ge j i with h1 | h1
      · exact hI j h h1
      · obtain rfl : j = i := by omega
        exact hb
  · intro s hI
    have h1 : ¬ xs.any P = true := by
      rw [List.any_eq_true]
      rintro ⟨x, hx, h2⟩
      obtain ⟨j, hj, rfl⟩ := List.getElem_of_mem hx
      rw [hI j hj hj] at h2; cases h2
    refine stop.mono fun r hr => ?_
    rw [if_neg h1]; exact hr
theorem has_ev {l : TLocks} (hl : l.Given.length < 9223372036854775808) (tx res : Int) : EvP (fun k => spec_l9Has.f k l tx res) (· = hasM l.Given tx res) := by
  unfold spec_l9Has.f spec_l9Has.c1
  have := first_ev (fun k i => spec_l9Has.l1 l tx res k i) l.Given (forB tx res) (fun i => (rd l.Given (i : Int)).Mode) hl ?_ ?_ ?_
  · refine EvP.bind this fun r hr => ?_
    unfold hasM fidx
    by_cases h : l.Given.any (forB tx res) = true
    · rw [if_pos h] at hr; subst hr
      simp only [Ex.on, if_pos h]; exact EvP.ret rfl
    · rw [if_neg h] at hr; subst hr
      simp only [Ex.on, if_neg h]; exact EvP.ret rfl
  · intro i hi hP
    simp only [forB, Bool.and_eq_true, decide_eq_true_eq] at hP
    simp only [spec_l9Has.l1, spec_l9Has.c2, rd_eq hi]
    refine EvP.ifT (by simpa using hi) (EvP.ifT ⟨by omega, by omega⟩ (EvP.bind1 (a := true) (EvP.ifT (by simp [hP.1]) (EvP.ifT ⟨by omega, by omega⟩ (EvP.ret (by simp [hP.2])))) (EvP.ifT rfl (EvP.ifT ⟨by omega, by omega⟩ (EvP.ret rfl)))))
  · intro i hi hP ih
    simp only [spec_l9Has.l1, spec_l9Has.c2, rd_eq hi]
    refine EvP.ifT (by simpa using hi) (EvP.ifT ⟨by omega, by omega⟩ (EvP.bind1 (a := false) (EvP.ite (fun h => EvP.ifT ⟨by omega, by omega⟩ (EvP.ret ?_)) fun h => EvP.ret rfl) (EvP.ifF (by simp) ?_)))
    · simp only [decide_eq_true_eq] at h
      simp only [forB, h, decide_true, Bool.true_and] at hP
      exact hP
    · rw [w64_succ hi hl]; exact ih
  · simp only [spec_l9Has.l1]
    exact EvP.ifF (by simp) (EvP.ret rfl)
theorem sWould_ev {l : TLocks} (hl : l.Given.length < 9223372036854775808) (g : TGrant) : EvP (fun k => spec_l9Would.f k l g) (· = sWouldM l.Given g) := by
  unfold spec_l9Would.f sWouldM
  refine EvP.bind1 (has_ev hl g.Tx g.Res) (EvP.ite (fun h => EvP.ret ?_) fun h => ?_)
  · simp at h; simp [h]
  · simp only [sBoth_eq, Option.bind_some]
    simp at h; exact EvP.ret (by simp [h])
theorem fits_ev {l : TLocks} (hl : l.Given.length < 9223372036854775808) (g : TGrant) (m : Int) : EvP (fun k => spec_l9Fits.f k l g m) (· = !l.Given.any (againstB g m)) := by
  unfold spec_l9Fits.f spec_l9Fits.c1
  have := first_ev (fun k i => spec_l9Fits.l1 l g m k i) l.Given (againstB g m) (fun _ => false) hl ?_ ?_ ?_
  · refine EvP.bind this fun r hr => ?_
    by_cases h : l.Given.any (againstB g m) = true
    · rw [if_pos h] at hr; subst hr
      simp only [Ex.on, h]; exact EvP.ret rfl
    · rw [if_neg h] at hr; subst hr
      simp only [Bool.not_eq_true] at h
      simp only [Ex.on, h]; exact EvP.ret rfl
  · intro i hi hP
    simp only [spec_l9Fits.l1, spec_l9Fits.c2, rd_eq hi, sGoes_eq, Option.bind_some]
    simp only [againstB, Bool.and_eq_true, decide_eq_true_eq] at hP
    refine EvP.ifT (by simpa using hi) (EvP.bind1 (a := true) (EvP.ifT ⟨by omega, by omega⟩ (EvP.ifT (by simp [hP.1.1]) (EvP.ifT ⟨by omega, by omega⟩ (EvP.ifT (by simp [hP.1.2]) (EvP.ifT ⟨by omega, by omega⟩ (EvP.ret hP.2)))))) (EvP.ifT rfl (EvP.ret rfl)))
  · intro i hi hP ih
    simp only [spec_l9Fits.l1, spec_l9Fits.c2, rd_eq hi, sGoes_eq, Option.bind_some]
    refine EvP.ifT (by simpa using hi) (EvP.bind1 (a := false) (EvP.ifT ⟨by omega, by omega⟩ (EvP.ite (fun h1 => EvP.ifT ⟨by omega, by omega⟩ (EvP.ite (fun h2 => EvP.ifT ⟨by omega, by omega⟩ (EvP.ret ?_)) fun _ => EvP.ret rfl)) fun _ => EvP.ret rfl)) (EvP.ifF (by simp) ?_))
    · simp only [decide_eq_true_eq] at h1 h2
      simpa [againstB, h1, h2] using hP
    · rw [w64_succ hi hl]; exact ih
  · simp only [spec_l9Fits.l1]
    exact EvP.ifF (by simp) (EvP.ret rfl)
theorem sForRes_ev {ws : List TGrant} (hl : ws.length < 9223372036854775808) (res : Int) : EvP (fun k => spec_l9ForRes.f k ws res) (· = ws.any (fun g => decide (g.Res = res))) := by
  unfold spec_l9ForRes.f spec_l9ForRes.c1
  have := first_ev (fun k i => spec_l9ForRes.l1 ws res k i) ws (fun g => decide (g.Res = res)) (fun _ => true) hl ?_ ?_ ?_
  · refine EvP.bind this fun r hr => ?_
    by_cases h : ws.any (fun g => decide (g.Res = res)) = true
    · rw [if_pos h] at hr; subst hr
      simp only [Ex.on, h]; exact EvP.ret rfl
    · rw [if_neg h] at hr; subst hr
      simp only [Bool.not_eq_true] at h
      simp only [Ex.on, h]; exact EvP.ret rfl
  · intro i hi hP
    simp only [spec_l9ForRes.l1, rd_eq hi]
    exact EvP.ifT (by simpa using hi) (EvP.ifT ⟨by omega, by omega⟩ (EvP.ifT hP (EvP.ret rfl)))
  · intro i hi hP ih
    simp only [spec_l9ForRes.l1, rd_eq hi]
    refine EvP.ifT (by simpa using hi) (EvP.ifT ⟨by omega, by omega⟩ (EvP.ifF (by simp [hP]) ?_))
    rw [w64_succ hi hl]; exact ih
  · simp only [spec_l9ForRes.l1]
    exact EvP.ifF (by simp) (EvP.ret rfl)
theorem sWaits_ev {l : TLocks} (hl : l.Waits.length < 9223372036854775808) (tx : Int) : EvP (fun k => spec_l9Waits.f k l tx) (· = l.Waits.any (fun g => decide (g.Tx = tx))) := by
  unfold spec_l9Waits.f spec_l9Waits.c1
  have := first_ev (fun k i => spec_l9Waits.l1 l tx k i) l.Waits (fun g => decide (g.Tx = tx)) (fun _ => true) hl ?_ ?_ ?_
  · refine EvP.bind this fun r hr => ?_
    by_cases h : l.Waits.any (fun g => decide (g.Tx = tx)) = true
    · rw [if_pos h] at hr; subst hr
      simp only [Ex.on, h]; exact EvP.ret rfl
    · rw [if_neg h] at hr; subst hr
      simp only [Bool.not_eq_true] at h
      simp only [Ex.on, h]; exact EvP.ret rfl
  · intro i hi hP
    simp only [spec_l9Waits.l1, rd_eq hi]
    exact EvP.ifT (by simpa using hi) (EvP.ifT ⟨by omega, by omega⟩ (EvP.ifT hP (EvP.ret rfl)))
  · intro i hi hP ih
    simp only [spec_l9Waits.l1, rd_eq hi]
    refine EvP.ifT (by simpa using hi) (EvP.ifT ⟨by omega, by omega⟩ (EvP.ifF (by simp [hP]) ?_))
    rw [w64_succ hi hl]; exact ih
  · simp only [spec_l9Waits.l1]
    exact EvP.ifF (by simp) (EvP.ret rfl)
end Go.Proofs.Ytbcpkopchnlefaa
