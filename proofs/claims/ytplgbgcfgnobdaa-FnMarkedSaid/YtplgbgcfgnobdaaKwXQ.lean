/- The plain law of the heap: what is drawn is a right view. Conditions: none. -/
import Derived.Test.YtplgbgcfgnobdaaKwXP
set_option linter.unusedVariables false
set_option linter.unusedSimpArgs false
namespace Go.Proofs.Ytplgbgcfgnobdaa
open Go.Kw

/-- A cursor over xs. -/
def Cur (xs : List Int) (b : List Int) (i : Int) : Prop := b = xs ∧ 0 ≤ i ∧ i ≤ (xs.length : Int)
theorem l1Byte_ev {xs b : List Int} {i h : Int} (hl : xs.length ≤ 1048576) (hc : Cur xs b i) :
    EvP (fun k => spec_l1Byte.f k b i h) (fun r => 0 ≤ r.1 ∧ r.1 ≤ 255 ∧ Cur xs r.2.1 r.2.2.1) := by
  obtain ⟨rfl, h0, h1⟩ := hc
  unfold spec_l1Byte.f spec_l1Byte.c1
  refine EvP.bind (Q := fun r => 0 ≤ r.1 ∧ r.1 ≤ (b.length : Int) ∧ 0 ≤ r.2 ∧ r.2 ≤ 255) ?_ fun r hr => EvP.ret ⟨hr.2.2.1, hr.2.2.2, rfl, hr.1, hr.2.1⟩
  refine EvP.ite (fun hi => EvP.ifT ⟨h0, by simpa using hi⟩ (EvP.ret ?_)) fun hi => EvP.ret ⟨h0, h1, band_range (by decide) (by decide)⟩
  have hi' : i < (b.length : Int) := by simpa using hi
  exact ⟨by rw [w64_id (by omega) (by omega)]; omega, by rw [w64_id (by omega) (by omega)]; omega, band_range (by decide) (by decide)⟩
theorem l1Below_ev {xs b : List Int} {i h n : Int} (hl : xs.length ≤ 1048576) (hc : Cur xs b i) (hn : 0 < n) :
    EvP (fun k => spec_l1Below.f k b i h n) (fun r => 0 ≤ r.1 ∧ r.1 < n ∧ Cur xs r.2.1 r.2.2.1) := by
  unfold spec_l1Below.f
  refine EvP.ifF (by simp; omega) ?_
  refine EvP.ite (fun _ => ?_) fun _ => ?_
  · refine EvP.bind (l1Byte_ev hl hc) fun r hr => EvP.ifT (by omega) (EvP.ret ?_)
    exact ⟨(tmod_range hr.1 hn).1, (tmod_range hr.1 hn).2, hr.2.2⟩
  · refine EvP.bind (l1Byte_ev hl hc) fun r hr => EvP.bind (l1Byte_ev hl hr.2.2) fun r2 hr2 => EvP.bind (l1Byte_ev hl hr2.2.2) fun r3 hr3 => EvP.ifT (by omega) (EvP.ret ?_)
    have e : w64 (w64 (w64 (r.1 * 65536) + w64 (r2.1 * 256)) + r3.1) = r.1 * 65536 + r2.1 * 256 + r3.1 := by
      rw [w64_id (n := r.1 * 65536) (by omega) (by omega), w64_id (n := r2.1 * 256) (by omega) (by omega), w64_id (n := r.1 * 65536 + r2.1 * 256) (by omega) (by omega), w64_id (by omega) (by omega)]
    rw [e]
    exact ⟨(tmod_range (by omega) hn).1, (tmod_range (by omega) hn).2, hr3.2.2⟩
theorem l1Int_ev {xs b : List Int} {i h : Int} {ns : List Int} (hl : xs.length ≤ 1048576) (hc : Cur xs b i) (hn : ns ≠ []) :
    EvP (fun k => spec_l1Int.f k b i h ns) (fun r => r.1 ∈ ns ∧ Cur xs r.2.1 r.2.2.1) := by
  unfold spec_l1Int.f
  have h1 : 0 < ns.length := List.length_pos_iff.2 hn
  refine EvP.bind (l1Below_ev hl hc (by omega)) fun r hr => EvP.ifT ⟨hr.1, hr.2.1⟩ (EvP.ret ⟨rd_mem hr.1 hr.2.1, hr.2.2⟩)
theorem l1Once_ev {xs b : List Int} {i h n : Int} (hl : xs.length ≤ 1048576) (hc : Cur xs b i) (hn : 0 < n) :
    EvP (fun k => spec_l1Once.f k b i h n) (fun r => Cur xs r.2.1 r.2.2.1) := by
  unfold spec_l1Once.f
  exact EvP.bind (l1Below_ev hl hc hn) fun r hr => EvP.ret hr.2.2
theorem l1New_ev {xs : List Int} (hl : xs.length ≤ 1048576) : EvP (fun k => spec_l1New.f k xs) (fun r => Cur xs r.b r.i) := by
  unfold spec_l1New.f
  refine EvP.bind (Q := fun _ => True) ?_ fun a _ => EvP.ret ⟨rfl, by simp [spec_l1New.c1], by simp [spec_l1New.c1]⟩
  have : ∀ (n : Nat) (i : Nat) (h : Int), xs.length - i ≤ n → i ≤ xs.length → EvP (fun k => spec_l1New.l1 xs k h (i : Int)) (fun _ => True) := by
    intro n
    induction n with
    | zero =>
      intro i h h1 h2
      refine EvP.succ ?_
      simp only [spec_l1New.l1]
      exact EvP.ifF (by simp; omega) (EvP.ret trivial)
    | succ n ih =>
      intro i h h1 h2
      refine EvP.succ ?_
      simp only [spec_l1New.l1]
      refine EvP.ite (fun hi => ?_) fun _ => EvP.ret trivial
      simp only [Bool.and_eq_true, decide_eq_true_eq] at hi
      refine EvP.ifT ⟨by omega, hi.1⟩ ?_
      rw [w64_succ (n := xs.length) (by omega) (by omega)]
      exact ih _ _ (by omega) (by omega)
  exact this _ 0 _ (Nat.le_refl _) (Nat.zero_le _)
theorem refs_ev {xs : List Int} {i0 : Int} (hl : xs.length ≤ 1048576) (h0 : 1 ≤ i0 ∧ i0 ≤ 31) : ∀ (n : Nat) {b : List Int} {i h : Int} {rs : List Int} {m : Int}, Cur xs b i → m = n → n ≤ 3 → rs.length + n ≤ 5 → (∀ r ∈ rs, 0 ≤ r ∧ r ≤ 31) →
    EvP (fun k => spec_l11Draw.l2 i0 k b i h rs m) (fun r => r.1.length ≤ 5 ∧ (∀ x ∈ r.1, 0 ≤ x ∧ x ≤ 31) ∧ Cur xs r.2.1 r.2.2.1) := by
  intro n
  induction n with
  | zero =>
    intro b i h rs m hc hm _ hr hall
    refine EvP.succ ?_
    simp only [spec_l11Draw.l2]
    exact EvP.ifF (by simp; omega) (EvP.ret ⟨by omega, hall, hc⟩)
  | succ n ih =>
    intro b i h rs m hc hm hn hr hall
    refine EvP.succ ?_
    simp only [spec_l11Draw.l2]
    refine EvP.ifT (by simp; omega) ?_
    refine EvP.bind (l1Below_ev hl hc (by decide)) fun r1 hr1 => EvP.bind (l1Below_ev hl hr1.2.2 (by decide)) fun r2 hr2 => EvP.bind (l1Int_ev hl hr2.2.2 (by simp)) fun r3 hr3 => EvP.ifT (by omega) ?_
    refine ih hr3.2 (by rw [w64_id (by omega) (by omega)]; omega) (by omega) (by simp; omega) ?_
    intro x hx
    rcases List.mem_append.1 hx with hx | hx
    · exact hall x hx
    · have hx' : x = r3.1 := by simpa using hx
      subst hx'
      have h3 := hr3.1
      have e : w64 (i0 + 1) = i0 + 1 := w64_id (by omega) (by omega)
      have t := tmod_range (a := i0 + 1) (n := 32) (by omega) (by decide)
      simp only [List.mem_cons, List.not_mem_nil, or_false, e] at h3
      rcases h3 with h3 | h3 | h3 | h3 | h3 <;> omega
theorem wr_mem {α : Type} {xs : List α} {i : Int} {x y : α} (h : y ∈ wr xs i x) : y ∈ xs ∨ y = x := List.mem_or_eq_of_mem_set h
theorem noSok : Sok (⟨false, ⟨0, [], []⟩⟩ : TSlot) := .inr ⟨rfl, rfl, rfl, rfl⟩
theorem draw_ev {xs : List Int} {b : List Int} {i h : Int} (hl : xs.length ≤ 1048576) (hc : Cur xs b i) : EvP (fun k => spec_l11Draw.f k b i h) (fun r => Vok r.1) := by
  unfold spec_l11Draw.f
  refine EvP.bind (Q := fun r => Vok r.1) ?_ fun r hr => EvP.ret hr
  have := for_up (fun k (s : List TSlot × List Int × Int × Int) i => spec_l11Draw.l1 k s.1 s.2.1 s.2.2.1 s.2.2.2 i) 32 (fun j s => 1 ≤ j ∧ Vok s.1 ∧ Cur xs s.2.1 s.2.2.1) (fun r => Vok r.1) ?_ ?_ (i := 1)
    (s := (List.replicate (32 : Int).toNat (⟨false, ⟨0, [], []⟩⟩ : TSlot), b, i, h)) (by decide) ⟨by decide, ⟨by simp, rfl, fun s hs => by rw [List.eq_of_mem_replicate hs]; exact noSok⟩, hc⟩
  · exact this
  · rintro j ⟨v, b, i, h⟩ hj hI ih
    dsimp only at hI ih ⊢
    obtain ⟨hj1, ⟨v1, v2, v3⟩, hc⟩ := hI
    simp only [spec_l11Draw.l1]
    refine EvP.ifT (by simp [v1]; omega) ?_
    refine EvP.bind (Q := fun r => Vok r.1 ∧ Cur xs r.2.1 r.2.2.1) ?_ fun r hr => ?_
    · refine EvP.bind (l1Once_ev hl hc (by decide)) fun r1 hr1 => EvP.ite (fun _ => EvP.ret ⟨⟨v1, v2, v3⟩, hr1⟩) fun _ => ?_
      refine EvP.bind (l1Below_ev hl hr1 (by decide)) fun r2 hr2 => EvP.bind (l1Below_ev hl hr2.2.2 (by decide)) fun r3 hr3 => ?_
      refine EvP.bind (Q := fun r => r.1.length ≤ 5 ∧ (∀ x ∈ r.1, 0 ≤ x ∧ x ≤ 31) ∧ Cur xs r.2.1 r.2.2.1) (EvP.bind (l1Below_ev hl hr3.2.2 (by decide)) fun r4 hr4 => ?_) fun r5 hr5 => ?_
      · exact refs_ev hl ⟨by omega, by omega⟩ r4.1.toNat hr4.2.2 (by omega) (by omega) (by simp; omega) (by simp)
      · unfold spec_l11Draw.c3
        refine EvP.ifT ⟨by omega, by rw [v1]; omega⟩ (EvP.ret ⟨⟨by simp [wr_len, v1], ?_, ?_⟩, hr5.2.2⟩)
        · rw [rd_wr_ne (by omega) (by omega) (by omega)]; exact v2
        · intro s hs
          rcases wr_mem hs with hs | rfl
          · exact v3 s hs
          · refine .inl ⟨rfl, ?_, ?_, by simp, hr5.1, ?_, hr5.2.1⟩
            · show 1 ≤ w64 (1 + r2.1); rw [w64_id (by omega) (by omega)]; omega
            · show w64 (1 + r2.1) ≤ 99; rw [w64_id (by omega) (by omega)]; omega
            · intro n hn; have : n = r3.1 := by simpa using hn
              omega
    · unfold spec_l11Draw.c2
      rw [w64_succ hj (by decide)]
      exact ih (r.1, r.2.1, r.2.2.1, r.2.2.2) ⟨by omega, hr⟩
  · rintro ⟨v, b, i, h⟩ hI
    simp only [spec_l11Draw.l1]
    exact EvP.ifF (by simp [hI.2.1.1]) (EvP.ret hI.2.1)
end Go.Proofs.Ytplgbgcfgnobdaa
