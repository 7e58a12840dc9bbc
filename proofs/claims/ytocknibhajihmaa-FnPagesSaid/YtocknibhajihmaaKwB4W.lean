/- What the writers write. Conditions: none. -/
import Derived.Test.YtocknibhajihmaaKwB4U
set_option linter.unusedVariables false
set_option linter.unusedSimpArgs false
namespace Go.Proofs.Ytocknibhajihmaa
open Go.Kw

theorem w8_id {n : Int} (h0 : 0 ≤ n) (h1 : n < 256) : w8 n = n := by
  have : w8 n = n % 256 := by simp [w8, IntKind.wrap, IntKind.signed, IntKind.bits]
  rw [this]; omega
theorem flat_len {α : Type} (e : α → List Int) (m : Nat) (l : List α) (h : ∀ x ∈ l, (e x).length ≤ m) : (l.flatMap e).length ≤ m * l.length := by
  induction l with
  | nil => simp
  | cons x l ih =>
    rw [List.flatMap_cons, List.length_append, List.length_cons, Nat.mul_add]
    have h1 := h x (List.mem_cons_self ..)
    have h2 := ih fun y hy => h y (List.mem_cons_of_mem _ hy)
    omega
theorem flat_loop {α : Type} (L : Nat → List Int → Int → Option (List Int)) (e : α → List Int) (l : List α) (xs : List Int) (hb : ∀ x ∈ l, (e x).length ≤ 20) (hx : xs.length ≤ 1073741824) (hl : l.length ≤ 1048576)
    (step : ∀ (i : Nat) (hi : i < l.length) (s : List Int) (Q : List Int → Prop), s.length ≤ 1099511000000 → EvP (fun k => L k (s ++ e l[i]) ((i + 1 : Nat) : Int)) Q → EvP (fun k => L (k + 1) s (i : Int)) Q)
    (stop : ∀ s, EvP (fun k => L (k + 1) s (l.length : Int)) (· = s)) : EvP (fun k => L k xs 0) (· = xs ++ l.flatMap e) := by
  refine for_up (fun k (s : List Int) i => L k s i) l.length (fun i s => s = xs ++ (l.take i).flatMap e) _ ?_ ?_ (i := 0) (s := xs) (Nat.zero_le _) (by simp)
  · intro i s hi hI ih
    have hlen : s.length ≤ 1099511000000 := by
      have h1 := flat_len e 20 (l.take i) fun x hx => hb x (List.mem_of_mem_take hx)
      rw [List.length_take] at h1
      rw [hI, List.length_append]; omega
    refine step i hi s _ hlen (ih _ ?_)
    rw [hI, List.take_succ_eq_append_getElem hi, List.flatMap_append]
    simp
  · intro s hI
    rw [List.take_length] at hI
    exact (stop s).mono fun r hr => by rw [hr]; exact hI
theorem obj_len {o : TObj} (h : oObj o) : (encObj o).length ≤ 78 := by
  have h1 := enc_len h.1.1
  have h2 := flat_len enc 6 o.Ints fun x hx => enc_len (h.1.2.2 x hx)
  have h3 := flat_len enc 6 o.Refs fun x hx => enc_len (h.2.2 x hx)
  have h4 : okP (o.Ints.length : Int) := by show okI _ = true; have := h.1.2.1; simp [okI]; omega
  have h5 : okP (o.Refs.length : Int) := by show okI _ = true; have := h.2.1; simp [okI]; omega
  have h6 := enc_len h4
  have h7 := enc_len h5
  have h8 := h.1.2.1
  have h9 := h.2.1
  unfold encObj encL
  simp only [List.length_append]
  omega
theorem ok_nat {n : Nat} (h : n ≤ 1048576) : okP (n : Int) := by show okI _ = true; simp [okI]; omega
theorem slot_len {s : TSlot} (h : slotP s) : (encSlot s).length ≤ 84 := by
  cases hh : s.Has with
  | true =>
    rw [encSlot_some hh, List.length_append]
    have h1 := obj_len (objB_ok (slotP_some h hh))
    have := enc_len (ok_nat (n := (encObj s.O).length) (by omega))
    omega
  | false => rw [encSlot_none hh]; have := enc_len ok0; omega
theorem putloop_ev (f : Nat) : ∀ (x : Nat) (xs : List Int), x < 128 ^ (f + 1) → xs.length + f ≤ 2199023255552 → x < 9223372036854775808 → EvP (fun k => impl_putInt.l1 k xs (x : Int)) (fun r => r.1 ++ [w8 r.2] = xs ++ encN x ∧ r.1.length ≤ xs.length + f) := by
  have small : ∀ (f x : Nat) (xs : List Int), x < 128 → EvP (fun k => impl_putInt.l1 k xs (x : Int)) (fun r => r.1 ++ [w8 r.2] = xs ++ encN x ∧ r.1.length ≤ xs.length + f) := by
    intro f x xs hx
    refine EvP.succ ?_
    simp only [impl_putInt.l1]
    refine EvP.ifF (by simp only [decide_eq_true_eq]; omega) (EvP.ret ⟨?_, by show xs.length ≤ _; omega⟩)
    rw [encN_lt hx, w8_id (by omega) (by omega)]
  induction f with
  | zero => intro x xs hx hl _; exact small 0 x xs (by simpa using hx)
  | succ f ih =>
    intro x xs hx hl hx2
    by_cases h : x < 128
    · exact small _ x xs h
    · refine EvP.succ ?_
      simp only [impl_putInt.l1]
      rw [band_127 hx2, bor_128 (by omega), bshr_7, w8_id (by omega) (by omega)]
      have hd : x / 128 < 128 ^ (f + 1) := by rw [Nat.div_lt_iff_lt_mul (by decide)]; rw [Nat.pow_succ] at hx; exact hx
      refine EvP.ifT (by simp only [decide_eq_true_eq]; omega) (EvP.ifT (by omega) ((ih (x / 128) _ hd (by simp only [List.length_append, List.length_cons, List.length_nil]; omega) (by omega)).mono fun r hr => ?_))
      rw [encN_ge h]
      refine ⟨by rw [hr.1, List.append_assoc]; rfl, ?_⟩
      have := hr.2
      simp only [List.length_append, List.length_cons, List.length_nil] at this; omega
theorem putInt_ev {xs : List Int} {n : Int} (hl : xs.length ≤ 1099511627776) (hn : okP n) : EvP (fun k => impl_putInt.f k xs n) (· = xs ++ enc n) := by
  have hz := zig_lt hn
  have hn2 : -1000000000000 ≤ n ∧ n ≤ 1000000000000 := by have : okI n = true := hn; simpa [okI] using this
  unfold impl_putInt.f
  have hc : imax (-1000000000000) (imin n 1000000000000) = n := by
    unfold imax imin
    split <;> split <;> omega
  rw [hc]
  refine EvP.bind1 (a := ((zig n : Nat) : Int)) (EvP.ite (fun h => EvP.ret ?_) fun h => EvP.ret ?_) ?_
  · simp only [decide_eq_true_eq] at h
    rw [w64_id (n := -2 * n) (by omega) (by omega), w64_id (by omega) (by omega)]
    unfold zig; rw [if_pos h]; omega
  · simp only [decide_eq_true_eq] at h
    rw [w64_id (by omega) (by omega)]
    unfold zig; rw [if_neg h]; omega
  · unfold impl_putInt.c2 impl_putInt.c1
    refine EvP.bind (putloop_ev 5 (zig n) xs (by omega) (by (try simp only [List.length_append, List.length_nil]); omega) (by omega)) fun r hr => EvP.ifT (by have := hr.2; (try simp only [List.length_append, List.length_nil] at this); omega) (EvP.ret ?_)
    exact hr.1
theorem putInts_ev {xs : List Int} {l : List Int} (hx : xs.length ≤ 1073741800) (hl : l.length ≤ 1048576) (ho : ∀ x ∈ l, okP x) : EvP (fun k => impl_putInts.f k xs l) (· = xs ++ encL l) := by
  unfold impl_putInts.f impl_putInts.c1
  have h1 := enc_len (ok_nat hl)
  refine EvP.bind1 (putInt_ev (by omega) (ok_nat hl)) (EvP.bind (flat_loop (impl_putInts.l1 l) enc l _ (fun x hx => by have := enc_len (ho x hx); omega) (by rw [List.length_append]; omega) hl ?_ ?_) fun r hr => EvP.ret ?_)
  · intro i hi s Q hs ih
    simp only [impl_putInts.l1]
    refine EvP.ifT (by simp only [decide_eq_true_eq]; omega) (EvP.ifT (by omega) ?_)
    rw [rd_eq hi, w64_succ hi (by omega)]
    exact EvP.bind1 (putInt_ev (by omega) (ho _ (List.getElem_mem hi))) ih
  · intro s
    simp only [impl_putInts.l1]
    exact EvP.ifF (by simp) (EvP.ret rfl)
  · rw [hr]; unfold encL; rw [List.append_assoc]
theorem putObj_ev {o : TObj} (h : gObj o) : EvP (fun k => impl_PutObj.f k o) (· = if objB o = true then encObj o else []) := by
  unfold impl_PutObj.f
  refine EvP.bind1 (ObjOk_ev h) ?_
  cases hb : objB o with
  | false => exact EvP.ifT rfl (EvP.ret (by rw [if_neg (by simp)]))
  | true =>
    refine EvP.ifF (by simp) ?_
    rw [if_pos rfl]
    have ho := objB_ok hb
    have h1 := enc_len ho.1.1
    have h2 := obj_len ho
    unfold encObj at h2
    simp only [List.length_append] at h2
    refine EvP.bind1 (putInt_ev (by simp) ho.1.1) (EvP.bind1 (putInts_ev (by simp only [List.length_append, List.length_nil]; omega) h.1 ho.1.2.2) (EvP.bind1 (putInts_ev (by simp only [List.length_append, List.length_nil]; omega) h.2.1 ho.2.2) (EvP.ret ?_)))
    unfold encObj
    simp
theorem putSlot_ev {xs : List Int} {s : TSlot} (hx : xs.length ≤ 1073741000) (h : slotP s) : EvP (fun k => impl_putSlot.f k xs s) (· = xs ++ encSlot s) := by
  unfold impl_putSlot.f
  cases hh : s.Has with
  | false =>
    rw [encSlot_none hh]
    exact EvP.ifT rfl (EvP.bind1 (putInt_ev (by omega) ok0) (EvP.ret rfl))
  | true =>
    rw [encSlot_some hh]
    have hb := slotP_some h hh
    have ho := objB_ok hb
    have h1 := obj_len ho
    have h2 := ok_nat (n := (encObj s.O).length) (by omega)
    have h3 := enc_len h2
    refine EvP.ifF (by simp) (EvP.bind1 (a := encObj s.O) ((putObj_ev (objB_g ho)).mono fun r hr => by rw [hr, if_pos hb]) (EvP.bind1 (putInt_ev (by omega) h2) (EvP.ifT (by rw [List.length_append]; omega) (EvP.ret ?_))))
    rw [List.append_assoc]
end Go.Proofs.Ytocknibhajihmaa
