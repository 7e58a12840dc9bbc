/- When records are right: both texts alike. Conditions: none. -/
import Derived.Test.YtocknibhajihmaaKwB4B
set_option linter.unusedVariables false
set_option linter.unusedSimpArgs false
namespace Go.Proofs.Ytocknibhajihmaa
open Go.Kw

def recB (r : TRec) : Bool := inB r.Lsn 1 1000000 && (slotB r.Before && slotB r.After) &&
  (if decide (r.Kind = 6) = true then ((decide (r.Tx = 0) && decide (r.Prev = 0)) && (decide (r.Oid = 0) && noSlotB r.Before && noSlotB r.After) && decide (r.Next = 0)) && livesB r.Txs r.Lsn
   else (inB r.Tx 1 1000 && inB r.Prev 0 (w64 (r.Lsn - 1)) && decide ((r.Txs.length : Int) = 0)) &&
    (if decide (r.Kind = 1) = true then inB r.Oid 1 31 && decide (r.Next = 0)
     else if decide (r.Kind = 4) = true then inB r.Oid 1 31 && noSlotB r.Before && inB r.Next 0 (w64 (r.Lsn - 1))
     else (decide (r.Kind = 2) || decide (r.Kind = 3) || decide (r.Kind = 5)) && (decide (r.Oid = 0) && noSlotB r.Before && noSlotB r.After) && decide (r.Next = 0)))
theorem noSlot_slot {s : TSlot} (h : noSlotB s = true) : slotB s = true := by
  unfold noSlotB at h
  unfold slotB
  cases hs : s.Has with
  | true => rw [hs] at h; simp at h
  | false => rw [hs] at h; simpa using h
theorem len_dec {α : Type} (xs : List α) : decide (0 < (xs.length : Int)) = !decide ((xs.length : Int) = 0) := by
  by_cases h : (xs.length : Int) = 0
  · simp [h]
  · have : 0 < (xs.length : Int) := by omega
    simp only [h, this, decide_true, decide_false, Bool.not_false]
theorem RecOk_ev {r : TRec} (h : gRec r) : EvP (fun k => impl_RecOk.f k r) (· = recB r) := by
  have hb := slotOk_ev h.1
  have ha := slotOk_ev h.2.1
  have hl := livesOk_ev (xs := r.Txs) h.2.2.1 r.Lsn
  unfold impl_RecOk.f
  simp only [in_eq, noSlot_eq, Option.bind_some]
  refine EvP.iteD (fun hc => EvP.ret ?_) fun hc => ?_
  · unfold recB
    simp only [Bool.not_eq_eq_eq_not, Bool.not_true] at hc
    rw [hc]; simp
  simp only [Bool.not_eq_eq_eq_not, Bool.not_false] at hc
  refine EvP.bind1 (a := decide (r.Oid = 0) && noSlotB r.Before) (and_ev fun _ => EvP.ret rfl) ?_
  unfold impl_RecOk.c10
  simp only [noSlot_eq, Option.bind_some]
  refine EvP.bind1 (a := decide (r.Oid = 0) && noSlotB r.Before && noSlotB r.After) (and_ev fun _ => EvP.ret rfl) ?_
  unfold impl_RecOk.c9
  refine EvP.iteD (fun h6 => ?_) fun h6 => ?_
  · unfold impl_RecOk.c1
    refine EvP.bind1 (and_ev fun _ => hl) (EvP.ret ?_)
    unfold recB
    rw [hc, if_pos h6]
    cases h1 : noSlotB r.Before with
    | false => simp
    | true =>
      cases h2 : noSlotB r.After with
      | false => simp
      | true => rw [noSlot_slot h1, noSlot_slot h2]; simp
  · unfold impl_isTx.f
    simp only [in_eq, Option.bind_some]
    refine EvP.bind1 (orn_ev (c := inB r.Prev 0 (w64 (r.Lsn - 1))) fun _ => EvP.ret rfl) ?_
    unfold impl_RecOk.c8
    rw [len_dec]
    have hrec : ∀ x : Bool, recB r = x ↔ ((slotB r.Before && slotB r.After) && ((inB r.Tx 1 1000 && inB r.Prev 0 (w64 (r.Lsn - 1)) && decide ((r.Txs.length : Int) = 0)) &&
      (if decide (r.Kind = 1) = true then inB r.Oid 1 31 && decide (r.Next = 0)
       else if decide (r.Kind = 4) = true then inB r.Oid 1 31 && noSlotB r.Before && inB r.Next 0 (w64 (r.Lsn - 1))
       else (decide (r.Kind = 2) || decide (r.Kind = 3) || decide (r.Kind = 5)) && (decide (r.Oid = 0) && noSlotB r.Before && noSlotB r.After) && decide (r.Next = 0)))) = x := by
      intro x
      unfold recB
      rw [hc, if_neg (by simp [h6])]
      simp
    refine EvP.iteD (fun h7 => EvP.ret ?_) fun h7 => ?_
    · refine ((hrec _).2 ?_).symm
      generalize inB r.Tx 1 1000 = a at *
      generalize inB r.Prev 0 (w64 (r.Lsn - 1)) = b at *
      generalize decide ((r.Txs.length : Int) = 0) = c at *
      cases a <;> cases b <;> cases c <;> simp_all
    · have h8 : (inB r.Tx 1 1000 && inB r.Prev 0 (w64 (r.Lsn - 1)) && decide ((r.Txs.length : Int) = 0)) = true := by
        generalize inB r.Tx 1 1000 = a at *
        generalize inB r.Prev 0 (w64 (r.Lsn - 1)) = b at *
        generalize decide ((r.Txs.length : Int) = 0) = c at *
        cases a <;> cases b <;> cases c <;> simp_all
      simp only [h8, Bool.true_and] at hrec
      refine EvP.iteD (fun k1 => ?_) fun k1 => ?_
      · rw [if_pos k1] at hrec
        unfold impl_isOid.f
        simp only [in_eq, Option.bind_some]
        refine EvP.bind1 (and_ev fun _ => hb) ?_
        unfold impl_RecOk.c3
        refine EvP.bind1 (and_ev fun _ => ha) ?_
        unfold impl_RecOk.c2
        refine EvP.ret ((hrec _).2 ?_).symm
        cases inB r.Oid 1 31 <;> cases slotB r.Before <;> cases slotB r.After <;> simp
      · rw [if_neg (by simp [k1])] at hrec
        refine EvP.iteD (fun k4 => ?_) fun k4 => ?_
        · rw [if_pos k4] at hrec
          unfold impl_isOid.f
          simp only [in_eq, noSlot_eq, Option.bind_some]
          refine EvP.bind1 (a := inB r.Oid 1 31 && noSlotB r.Before) (and_ev fun _ => EvP.ret rfl) ?_
          unfold impl_RecOk.c6
          refine EvP.bind1 (and_ev fun _ => ha) ?_
          unfold impl_RecOk.c5
          simp only [in_eq, Option.bind_some]
          refine EvP.bind1 (and_ev (c := inB r.Next 0 (w64 (r.Lsn - 1))) fun _ => EvP.ret rfl) ?_
          unfold impl_RecOk.c4
          refine EvP.ret ((hrec _).2 ?_).symm
          cases h1 : noSlotB r.Before with
          | false => simp
          | true => rw [noSlot_slot h1]; cases inB r.Oid 1 31 <;> cases slotB r.After <;> simp
        · rw [if_neg (by simp [k4])] at hrec
          refine EvP.bind1 (a := decide (r.Kind = 2) || decide (r.Kind = 3) || decide (r.Kind = 5)) ?_ ?_
          · refine EvP.ite (fun h2 => EvP.ret ?_) fun h2 => EvP.ite (fun h3 => EvP.ret ?_) fun h3 => EvP.ret ?_
            · simp_all
            · simp_all
            · simp_all
          · unfold impl_RecOk.c7
            have key : ∀ K B : Bool, ((slotB r.Before && slotB r.After) && (K && (B && noSlotB r.Before && noSlotB r.After) && decide (r.Next = 0))) = (K && (B && noSlotB r.Before && noSlotB r.After && decide (r.Next = 0))) := by
              intro K B
              cases h1 : noSlotB r.Before with
              | false => simp
              | true =>
                cases h2 : noSlotB r.After with
                | false => simp
                | true => rw [noSlot_slot h1, noSlot_slot h2]; simp [Bool.and_assoc]
            simp only [key] at hrec
            refine EvP.iteD (fun hk => EvP.ret ((hrec _).2 ?_).symm) fun hk => EvP.ret ((hrec _).2 ?_).symm
            · rw [hk]; simp
            · rw [hk]; simp
theorem SI_ev (xs ys : List Int) (hl : xs.length ≤ 1048576) (hl2 : ys.length ≤ 1048576) : EvP (fun k => spec_l2SameInts.f k xs ys) (· = decide (xs = ys)) := by
  unfold spec_l2SameInts.f spec_l2SameInts.c1
  refine EvP.ite (fun h => EvP.ret ?_) fun h => ?_
  · simp only [decide_eq_true_eq] at h
    have : xs ≠ ys := fun e => h (by rw [e])
    simp [this]
  · simp only [decide_eq_true_eq, Classical.not_not] at h
    have hlen : xs.length = ys.length := by omega
    refine EvP.bind1 (range_ev (spec_l2SameInts.l1 xs ys) xs.length (fun i => decide (rd xs (i : Int) = rd ys (i : Int))) (by omega) ?_ ?_ ?_) ?_
    · intro i hi hP
      simp only [spec_l2SameInts.l1]
      refine EvP.ifT (by simpa using hi) (EvP.ifT (by omega) (EvP.ifT (by omega) (EvP.ifT (by simpa using hP) (EvP.ret rfl))))
    · intro i Q hi hP ih
      simp only [spec_l2SameInts.l1]
      refine EvP.ifT (by simpa using hi) (EvP.ifT (by omega) (EvP.ifT (by omega) (EvP.ifF (by simpa using hP) ?_)))
      rw [w64_succ hi (by omega)]; exact ih
    · simp only [spec_l2SameInts.l1]
      exact EvP.ifF (by simp) (EvP.ret rfl)
    · have : (List.range xs.length).all (fun i => decide (rd xs (i : Int) = rd ys (i : Int))) = decide (xs = ys) := rd_all hlen
      rw [this]
      cases decide (xs = ys) with
      | false => simp only [Bool.false_eq_true, if_false, Ex.on]; exact EvP.ret rfl
      | true => simp only [if_true, Ex.on]; exact EvP.ret rfl
def sameObjB (a b : TObj) : Bool := decide (a.Kind = b.Kind) && decide (a.Ints = b.Ints) && decide (a.Refs = b.Refs)
def sameSlotB (a b : TSlot) : Bool := (a.Has == b.Has) && sameObjB a.O b.O
theorem sSameObj_ev {a b : TObj} (h : gObj a) (k : gObj b) : EvP (fun n => spec_SameObj.f n a b) (· = sameObjB a b) := by
  unfold spec_SameObj.f spec_SameObj.c2 spec_SameObj.c1
  exact EvP.bind1 (and_ev fun _ => SI_ev _ _ h.1 k.1) (EvP.bind1 (and_ev fun _ => SI_ev _ _ h.2.1 k.2.1) (EvP.ret rfl))
theorem sSameSlot_ev {a b : TSlot} (h : gSlot a) (k : gSlot b) : EvP (fun n => spec_l3SameSlot.f n a b) (· = sameSlotB a b) := by
  unfold spec_l3SameSlot.f spec_l3SameSlot.c1
  exact EvP.bind1 (and_ev fun _ => sSameObj_ev h.1 k.1) (EvP.ret rfl)
def zeroSlot : TSlot := ⟨false, ⟨0, [], []⟩⟩
theorem zeroSlot_z : gSlot zeroSlot := ⟨⟨by show 0 ≤ _; omega, by show 0 ≤ _; omega, trivial⟩, trivial⟩
theorem sameZero (s : TSlot) : sameSlotB s zeroSlot = noSlotB s := by
  unfold sameSlotB sameObjB noSlotB noObjB zeroSlot
  have h : ∀ xs : List Int, decide (xs = []) = decide ((xs.length : Int) = 0) := fun xs => by
    cases xs with
    | nil => rfl
    | cons x xs => simp; omega
  simp only [h]
  cases s.Has <;> simp
theorem sZero_ev {r : TRec} (h : gRec r) (tx oid before next txs : Bool) : EvP (fun k => spec_l4Zero.f k r tx oid before next txs)
    (· = (((tx || (decide (r.Tx = 0) && decide (r.Prev = 0))) && (oid || (decide (r.Oid = 0) && noSlotB r.After)) && (before || noSlotB r.Before) && (next || decide (r.Next = 0))) && (txs || decide ((r.Txs.length : Int) = 0)))) := by
  have ea : EvP (fun k => spec_l3SameSlot.f k r.After (⟨false, (⟨0, ([] : List Int), ([] : List Int)⟩ : TObj)⟩ : TSlot)) (· = noSlotB r.After) := (sSameSlot_ev h.2.1 zeroSlot_z).mono fun x hx => by rw [hx]; exact sameZero _
  have eb : EvP (fun k => spec_l3SameSlot.f k r.Before (⟨false, (⟨0, ([] : List Int), ([] : List Int)⟩ : TObj)⟩ : TSlot)) (· = noSlotB r.Before) := (sSameSlot_ev h.1 zeroSlot_z).mono fun x hx => by rw [hx]; exact sameZero _
  unfold spec_l4Zero.f spec_l4Zero.c5 spec_l4Zero.c4 spec_l4Zero.c3 spec_l4Zero.c2 spec_l4Zero.c1
  refine EvP.bind1 (a := (tx || (decide (r.Tx = 0) && decide (r.Prev = 0))) && (oid || (decide (r.Oid = 0) && noSlotB r.After))) ?_ (EvP.bind1 (a := (tx || (decide (r.Tx = 0) && decide (r.Prev = 0))) && (oid || (decide (r.Oid = 0) && noSlotB r.After)) && (before || noSlotB r.Before)) ?_ (EvP.ret ?_))
  · exact and_ev (c := (oid || (decide (r.Oid = 0) && noSlotB r.After))) fun _ => or_ev (c := decide (r.Oid = 0) && noSlotB r.After) fun _ => and_ev fun _ => ea
  · exact and_ev (c := (before || noSlotB r.Before)) fun _ => or_ev (c := noSlotB r.Before) fun _ => eb
  · rfl
theorem sRecOk_ev {r : TRec} (h : gRec r) : EvP (fun k => spec_RecOk.f k r) (· = recB r) := by
  have hb := sSlot_ev h.1
  have ha := sSlot_ev h.2.1
  have hl := sLives_ev (r := r) h.2.2.1
  have hz := sZero_ev h
  unfold spec_RecOk.f
  simp only [sin_eq, Option.bind_some]
  refine EvP.bind1 (orn_ev fun _ => hb) ?_
  unfold spec_RecOk.c8
  refine EvP.bind1 (orn_ev fun _ => ha) ?_
  unfold spec_RecOk.c7
  refine EvP.iteD (fun hc => EvP.ret ?_) fun hc => ?_
  · unfold recB
    cases h1 : inB r.Lsn 1 1000000 <;> cases h2 : slotB r.Before <;> cases h3 : slotB r.After <;> simp_all
  · obtain ⟨q1, q2, q3⟩ : inB r.Lsn 1 1000000 = true ∧ slotB r.Before = true ∧ slotB r.After = true := by
      cases h1 : inB r.Lsn 1 1000000 <;> cases h2 : slotB r.Before <;> cases h3 : slotB r.After <;> simp_all
    have hrec : recB r = (if decide (r.Kind = 6) = true then ((decide (r.Tx = 0) && decide (r.Prev = 0)) && (decide (r.Oid = 0) && noSlotB r.Before && noSlotB r.After) && decide (r.Next = 0)) && livesB r.Txs r.Lsn
       else (inB r.Tx 1 1000 && inB r.Prev 0 (w64 (r.Lsn - 1)) && decide ((r.Txs.length : Int) = 0)) &&
        (if decide (r.Kind = 1) = true then inB r.Oid 1 31 && decide (r.Next = 0)
         else if decide (r.Kind = 4) = true then inB r.Oid 1 31 && noSlotB r.Before && inB r.Next 0 (w64 (r.Lsn - 1))
         else (decide (r.Kind = 2) || decide (r.Kind = 3) || decide (r.Kind = 5)) && (decide (r.Oid = 0) && noSlotB r.Before && noSlotB r.After) && decide (r.Next = 0))) := by
      unfold recB; rw [q1, q2, q3]; simp only [Bool.and_self, Bool.true_and]
    refine EvP.iteD (fun h6 => ?_) fun h6 => ?_
    · refine EvP.bind1 (hz false false false false true) (EvP.bind1 (and_ev fun _ => hl) ?_)
      unfold spec_RecOk.c1
      refine EvP.ret ?_
      rw [hrec, if_pos h6]
      cases decide (r.Tx = 0) <;> cases decide (r.Prev = 0) <;> cases decide (r.Oid = 0) <;> cases noSlotB r.Before <;> cases noSlotB r.After <;> simp
    · rw [if_neg (by simp [h6])] at hrec
      simp only [sin_eq, Option.bind_some]
      refine EvP.bind1 (orn_ev (c := inB r.Prev 0 (w64 (r.Lsn - 1))) fun _ => EvP.ret rfl) ?_
      unfold spec_RecOk.c6
      refine EvP.iteD (fun h7 => EvP.ret ?_) fun h7 => ?_
      · rw [hrec]
        cases k1 : inB r.Tx 1 1000 <;> cases k2 : inB r.Prev 0 (w64 (r.Lsn - 1)) <;> simp_all
      · obtain ⟨k1, k2⟩ : inB r.Tx 1 1000 = true ∧ inB r.Prev 0 (w64 (r.Lsn - 1)) = true := by
          cases k1 : inB r.Tx 1 1000 <;> cases k2 : inB r.Prev 0 (w64 (r.Lsn - 1)) <;> simp_all
        rw [k1, k2] at hrec
        simp only [Bool.and_self, Bool.true_and] at hrec
        refine EvP.iteD (fun e1 => ?_) fun e1 => ?_
        · rw [if_pos e1] at hrec
          refine EvP.bind1 (hz true true true false false) ?_
          simp only [sin_eq, Option.bind_some]
          refine EvP.bind1 (and_ev (c := inB r.Oid 1 31) fun _ => EvP.ret rfl) ?_
          unfold spec_RecOk.c2
          refine EvP.ret ?_
          rw [hrec]
          cases decide (r.Next = 0) <;> cases decide ((r.Txs.length : Int) = 0) <;> cases inB r.Oid 1 31 <;> simp
        · rw [if_neg (by simp [e1])] at hrec
          refine EvP.iteD (fun e4 => ?_) fun e4 => ?_
          · rw [if_pos e4] at hrec
            refine EvP.bind1 (hz true true false true false) ?_
            simp only [sin_eq, Option.bind_some]
            refine EvP.bind1 (and_ev (c := inB r.Oid 1 31) fun _ => EvP.ret rfl) ?_
            unfold spec_RecOk.c4
            simp only [sin_eq, Option.bind_some]
            refine EvP.bind1 (and_ev (c := inB r.Next 0 (w64 (r.Lsn - 1))) fun _ => EvP.ret rfl) ?_
            unfold spec_RecOk.c3
            refine EvP.ret ?_
            rw [hrec]
            cases noSlotB r.Before <;> cases decide ((r.Txs.length : Int) = 0) <;> cases inB r.Oid 1 31 <;> simp
          · rw [if_neg (by simp [e4])] at hrec
            refine EvP.bind1 (a := decide (r.Kind = 2) || decide (r.Kind = 3) || decide (r.Kind = 5)) ?_ ?_
            · refine EvP.ite (fun h2 => EvP.ret ?_) fun h2 => EvP.ite (fun h3 => EvP.ret ?_) fun h3 => EvP.ret ?_
              · simp_all
              · simp_all
              · simp_all
            · unfold spec_RecOk.c5
              refine EvP.iteD (fun hk => EvP.bind1 (hz true false false false false) (EvP.ret ?_)) fun hk => EvP.ret ?_
              · rw [hrec, hk]
                cases decide (r.Oid = 0) <;> cases noSlotB r.Before <;> cases noSlotB r.After <;> cases decide (r.Next = 0) <;> simp
              · rw [hrec, hk]; simp
end Go.Proofs.Ytocknibhajihmaa
