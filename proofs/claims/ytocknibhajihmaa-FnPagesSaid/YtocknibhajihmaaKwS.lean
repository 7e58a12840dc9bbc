/- Numbers in bytes: groups of seven bits, low first; the plain theory. Conditions: none. -/
import Derived.Test.YtocknibhajihmaaKwO
set_option linter.unusedVariables false
set_option linter.unusedSimpArgs false
namespace Go.Kw

theorem ofInt_nat {a : Nat} (ha : a < 9223372036854775808) : (BitVec.ofInt 64 (a : Int)).toNat = a := by
  rw [BitVec.toNat_ofInt]
  have : (a : Int) % ((2 ^ 64 : Nat) : Int) = (a : Int) := Int.emod_eq_of_lt (by omega) (by omega)
  rw [this]; rfl
theorem bor_nat {a b : Nat} (ha : a < 9223372036854775808) (hb : b < 9223372036854775808) : bor .i64 (a : Int) (b : Int) = ((a ||| b : Nat) : Int) := by
  have h3 : bor .i64 (a : Int) (b : Int) = w64 ((BitVec.ofInt 64 (a : Int) ||| BitVec.ofInt 64 (b : Int)).toNat : Nat) := rfl
  have h4 : a ||| b < 2 ^ 63 := Nat.or_lt_two_pow (n := 63) ha hb
  rw [h3, BitVec.toNat_or, ofInt_nat ha, ofInt_nat hb, w64_id (by omega) (by omega)]
theorem band_nat {a b : Nat} (ha : a < 9223372036854775808) (hb : b < 9223372036854775808) : band .i64 (a : Int) (b : Int) = ((a &&& b : Nat) : Int) := by
  have h3 : band .i64 (a : Int) (b : Int) = w64 ((BitVec.ofInt 64 (a : Int) &&& BitVec.ofInt 64 (b : Int)).toNat : Nat) := rfl
  have h4 : a &&& b < 2 ^ 63 := Nat.and_lt_two_pow (n := 63) a hb
  rw [h3, BitVec.toNat_and, ofInt_nat ha, ofInt_nat hb, w64_id (by omega) (by omega)]
theorem band_127 {a : Nat} (ha : a < 9223372036854775808) : band .i64 (a : Int) 127 = ((a % 128 : Nat) : Int) := by
  rw [show (127 : Int) = ((127 : Nat) : Int) from rfl, band_nat ha (by decide)]
  rw [show (127 : Nat) = 2 ^ 7 - 1 from rfl, Nat.and_two_pow_sub_one_eq_mod]
theorem band_1 {a : Nat} (ha : a < 9223372036854775808) : band .i64 (a : Int) 1 = ((a % 2 : Nat) : Int) := by
  rw [show (1 : Int) = ((1 : Nat) : Int) from rfl, band_nat ha (by decide)]
  rw [show (1 : Nat) = 2 ^ 1 - 1 from rfl, Nat.and_two_pow_sub_one_eq_mod]
theorem bor_add {a x s : Nat} (ha : a < 2 ^ s) (hs : s ≤ 62) (hx : x * 2 ^ s < 9223372036854775808) : bor .i64 (a : Int) ((x * 2 ^ s : Nat) : Int) = ((a + x * 2 ^ s : Nat) : Int) := by
  have : 2 ^ s ≤ 2 ^ 62 := Nat.pow_le_pow_right (by decide) hs
  rw [bor_nat (by omega) hx, Nat.or_comm, Nat.mul_comm, ← Nat.two_pow_add_eq_or_of_lt ha, Nat.add_comm]
theorem bor_128 {x : Nat} (hx : x < 128) : bor .i64 (x : Int) 128 = ((x + 128 : Nat) : Int) := bor_add (a := x) (x := 1) (s := 7) hx (by decide) (by decide)
theorem bshl_nat {x s : Nat} (hs : s ≤ 62) (hx : x * 2 ^ s < 9223372036854775808) : bshl .i64 (x : Int) (s : Int) = ((x * 2 ^ s : Nat) : Int) := by
  have e : bshl .i64 (x : Int) (s : Int) = w64 ((x : Int) * 2 ^ (min s 64)) := rfl
  rw [e, Nat.min_eq_left (by omega)]
  have : (x : Int) * 2 ^ s = ((x * 2 ^ s : Nat) : Int) := by push_cast; rfl
  rw [this, w64_id (by omega) (by omega)]
theorem bshr_7 (a : Nat) : bshr .i64 (a : Int) 7 = ((a / 128 : Nat) : Int) := by
  have e : bshr .i64 (a : Int) 7 = (a : Int).fdiv 128 := rfl
  rw [e, Int.fdiv_eq_ediv_of_nonneg _ (by decide)]; rfl
theorem bshr_1 (a : Nat) : bshr .i64 (a : Int) 1 = ((a / 2 : Nat) : Int) := by
  have e : bshr .i64 (a : Int) 1 = (a : Int).fdiv 2 := rfl
  rw [e, Int.fdiv_eq_ediv_of_nonneg _ (by decide)]; rfl

/-- The groups of a number. -/
def encN (n : Nat) : List Int := if h : n < 128 then [(n : Int)] else (((n % 128 + 128 : Nat)) : Int) :: encN (n / 128)
termination_by n
decreasing_by omega
theorem encN_lt {n : Nat} (h : n < 128) : encN n = [(n : Int)] := by rw [encN]; simp [h]
theorem encN_ge {n : Nat} (h : ¬ n < 128) : encN n = (((n % 128 + 128 : Nat)) : Int) :: encN (n / 128) := by rw [encN]; simp [h]
/-- A number of its groups, not more than f of them; canonical alone. -/
def decN : Nat → List Int → Option (Nat × Nat)
  | 0, _ => none
  | f + 1, [] => none
  | f + 1, b :: t => if b < 128 then some (b.toNat, 1) else match decN f t with
    | some (m, l) => if m = 0 then none else some ((b - 128).toNat + 128 * m, l + 1)
    | none => none
theorem decN_cons (f : Nat) (b : Int) (t : List Int) : decN (f + 1) (b :: t) = if b < 128 then some (b.toNat, 1) else match decN f t with
    | some (m, l) => if m = 0 then none else some ((b - 128).toNat + 128 * m, l + 1)
    | none => none := rfl
def zig (n : Int) : Nat := if n < 0 then (-2 * n - 1).toNat else (2 * n).toNat
def unzig (m : Nat) : Int := if m % 2 = 1 then -((m / 2 : Nat) : Int) - 1 else ((m / 2 : Nat) : Int)
theorem unzig_zig (n : Int) : unzig (zig n) = n := by
  unfold unzig zig
  split <;> split <;> omega
theorem zig_unzig (m : Nat) : zig (unzig m) = m := by
  unfold unzig zig
  split <;> split <;> omega
def okI (n : Int) : Bool := decide (-1000000000000 ≤ n) && decide (n ≤ 1000000000000)
def enc (n : Int) : List Int := encN (zig n)
theorem zig_lt {n : Int} (h : okI n = true) : zig n < 2 ^ 41 := by
  simp only [okI, Bool.and_eq_true, decide_eq_true_eq] at h
  unfold zig
  split <;> omega
theorem encN_len (f : Nat) : ∀ n, n < 128 ^ (f + 1) → (encN n).length ≤ f + 1 := by
  induction f with
  | zero => intro n h; rw [encN_lt (by simpa using h)]; simp
  | succ f ih =>
    intro n h
    by_cases hn : n < 128
    · rw [encN_lt hn]; simp
    · rw [encN_ge hn]
      have : n / 128 < 128 ^ (f + 1) := by rw [Nat.div_lt_iff_lt_mul (by decide)]; rw [Nat.pow_succ] at h; exact h
      have := ih _ this
      simp; omega
theorem encN_pos (n : Nat) : 0 < (encN n).length := by
  by_cases hn : n < 128
  · rw [encN_lt hn]; simp
  · rw [encN_ge hn]; simp
def wfB (l : List Int) : Prop := ∀ x ∈ l, 0 ≤ x ∧ x < 256
theorem encN_wf (f : Nat) : ∀ n, n < 128 ^ (f + 1) → wfB (encN n) := by
  induction f with
  | zero => intro n h; rw [encN_lt (by simpa using h)]; intro x hx; simp at hx h; omega
  | succ f ih =>
    intro n h
    by_cases hn : n < 128
    · rw [encN_lt hn]; intro x hx; simp at hx; omega
    · rw [encN_ge hn]
      have : n / 128 < 128 ^ (f + 1) := by rw [Nat.div_lt_iff_lt_mul (by decide)]; rw [Nat.pow_succ] at h; exact h
      have := ih _ this
      intro x hx
      rcases List.mem_cons.1 hx with h1 | h1
      · omega
      · exact this x h1
theorem decN_enc (f : Nat) : ∀ n t, n < 128 ^ (f + 1) → decN (f + 1) (encN n ++ t) = some (n, (encN n).length) := by
  induction f with
  | zero =>
    intro n t h
    have h : n < 128 := by simpa using h
    rw [encN_lt h]
    show (if (n : Int) < 128 then _ else _) = _
    rw [if_pos (by omega)]; simp
  | succ f ih =>
    intro n t h
    by_cases hn : n < 128
    · rw [encN_lt hn]
      show (if (n : Int) < 128 then _ else _) = _
      rw [if_pos (by omega)]; simp
    · rw [encN_ge hn]
      have : n / 128 < 128 ^ (f + 1) := by rw [Nat.div_lt_iff_lt_mul (by decide)]; rw [Nat.pow_succ] at h; exact h
      have := ih _ t this
      rw [List.cons_append, decN_cons, if_neg (by omega), this]
      dsimp only
      rw [if_neg (by omega)]
      simp only [List.length_cons, Option.some.injEq, Prod.mk.injEq, and_true]
      omega
theorem decN_inv (f : Nat) : ∀ l m len, wfB l → decN f l = some (m, len) → l = encN m ++ l.drop len ∧ len = (encN m).length ∧ m < 128 ^ f := by
  induction f with
  | zero => intro l m len _ h; cases h
  | succ f ih =>
    intro l m len hw h
    cases l with
    | nil => cases h
    | cons b t =>
      have hb := hw b (List.mem_cons_self ..)
      change (if b < 128 then some (b.toNat, 1) else match decN f t with
        | some (m, l) => if m = 0 then none else some ((b - 128).toNat + 128 * m, l + 1)
        | none => none) = some (m, len) at h
      by_cases h1 : b < 128
      · rw [if_pos h1] at h
        cases h
        have : b.toNat < 128 := by omega
        rw [encN_lt this]
        refine ⟨?_, rfl, ?_⟩
        · simp; omega
        · rw [Nat.pow_succ]; exact Nat.lt_of_lt_of_le this (Nat.le_mul_of_pos_left _ (Nat.pow_pos (by decide)))
      · rw [if_neg h1] at h
        cases hd : decN f t with
        | none => rw [hd] at h; cases h
        | some r =>
          obtain ⟨m1, l1⟩ := r
          rw [hd] at h
          change (if m1 = 0 then none else some ((b - 128).toNat + 128 * m1, l1 + 1)) = some (m, len) at h
          by_cases hm : m1 = 0
          · rw [if_pos hm] at h; cases h
          · rw [if_neg hm] at h
            cases h
            obtain ⟨e1, e2, e3⟩ := ih t m1 l1 (fun x hx => hw x (List.mem_cons_of_mem _ hx)) hd
            have hn : ¬ ((b - 128).toNat + 128 * m1 < 128) := by omega
            have hdiv : ((b - 128).toNat + 128 * m1) / 128 = m1 := by omega
            rw [encN_ge hn, hdiv]
            refine ⟨?_, ?_, ?_⟩
            · rw [List.drop_succ_cons, List.cons_append, ← e1]
              congr 1; omega
            · simp [e2]
            · rw [Nat.pow_succ]; omega
def dec (l : List Int) : Option (Int × Nat) := match decN 6 l with
  | some (m, len) => if okI (unzig m) = true then some (unzig m, len) else none
  | none => none
theorem dec_enc {n : Int} (h : okI n = true) (t : List Int) : dec (enc n ++ t) = some (n, (enc n).length) := by
  unfold dec enc
  have := zig_lt h
  rw [decN_enc 5 _ _ (by omega)]
  show (if okI (unzig (zig n)) = true then _ else _) = _
  rw [unzig_zig, if_pos h]
theorem dec_inv {l : List Int} {n : Int} {len : Nat} (hw : wfB l) (h : dec l = some (n, len)) : okI n = true ∧ l = enc n ++ l.drop len ∧ len = (enc n).length := by
  unfold dec at h
  cases hd : decN 6 l with
  | none => rw [hd] at h; cases h
  | some r =>
    obtain ⟨m, l1⟩ := r
    rw [hd] at h
    change (if okI (unzig m) = true then some (unzig m, l1) else none) = _ at h
    by_cases hm : okI (unzig m) = true
    · rw [if_pos hm] at h
      cases h
      obtain ⟨e1, e2, _⟩ := decN_inv 6 l m len hw hd
      refine ⟨hm, ?_, ?_⟩
      · unfold enc; rw [zig_unzig]; exact e1
      · unfold enc; rw [zig_unzig]; exact e2
    · rw [if_neg hm] at h; cases h
theorem enc_len {n : Int} (h : okI n = true) : (enc n).length ≤ 6 := encN_len 5 _ (Nat.lt_trans (zig_lt h) (by decide))
theorem enc_pos (n : Int) : 0 < (enc n).length := encN_pos _
theorem enc_wf {n : Int} (h : okI n = true) : wfB (enc n) := encN_wf 5 _ (Nat.lt_trans (zig_lt h) (by decide))
theorem wfB_app {a b : List Int} (ha : wfB a) (hb : wfB b) : wfB (a ++ b) := fun x hx => (List.mem_append.1 hx).elim (ha x) (hb x)
theorem wfB_drop {a : List Int} (ha : wfB a) (n : Nat) : wfB (a.drop n) := fun x hx => ha x (List.mem_of_mem_drop hx)
end Go.Kw
