/- The plain law of the locks: giving keeps locks right. Conditions: none. -/
import Derived.Test.YtbcpkopchnlefaaKwYD
set_option linter.unusedVariables false
set_option linter.unusedSimpArgs false
namespace Go.Proofs.Ytbcpkopchnlefaa
open Go.Kw

theorem confB_false {a b : TGrant} : confB a b = false ↔ (a.Res = b.Res → a.Tx ≠ b.Tx ∧ goesB a.Mode b.Mode = true) := by
  unfold confB
  by_cases h1 : a.Res = b.Res <;> by_cases h2 : a.Tx = b.Tx <;> simp [h1, h2]
theorem againstB_false {g x : TGrant} {m : Int} : againstB g m x = false ↔ (x.Res = g.Res → x.Tx ≠ g.Tx → goesB m x.Mode = true) := by
  unfold againstB
  by_cases h1 : x.Res = g.Res <;> by_cases h2 : x.Tx = g.Tx <;> simp [h1, h2]
/-- All pairs go together: one name a Res and Tx. -/
def PairOk (gs : List TGrant) : Prop := ∀ i (hi : i < gs.length) j (hj : j < i), confB (gs[j]'(by omega)) gs[i] = false
theorem PairOk.pair {gs : List TGrant} (h : PairOk gs) : gs.Pairwise (fun a b => confB a b = false) := by
  rw [List.pairwise_iff_getElem]
  intro i j hi hj hij
  exact h j hj i hij
theorem PairOk.of {gs : List TGrant} (h : gs.Pairwise (fun a b => confB a b = false)) : PairOk gs := by
  rw [List.pairwise_iff_getElem] at h
  intro i hi j hj
  exact h j i (by omega) hi hj
theorem forB_iff {tx res : Int} {g : TGrant} : forB tx res g = true ↔ g.Tx = tx ∧ g.Res = res := by simp [forB]
theorem any_false {α : Type} {xs : List α} {P : α → Bool} : xs.any P = false ↔ ∀ x ∈ xs, P x = false := by
  rw [List.any_eq_false]; simp
/-- With a hit, giving sets the mode at its place. -/
theorem giveM_hit {gs : List TGrant} {g : TGrant} {m : Int} (h : gs.any (forB g.Tx g.Res) = true) : ∃ i, ∃ hi : i < gs.length, gs[i].Tx = g.Tx ∧ gs[i].Res = g.Res ∧ giveM gs g m = gs.set i ⟨g.Tx, g.Res, m⟩ ∧ fidx (forB g.Tx g.Res) gs = (i : Int) := by
  obtain ⟨i, hi, e, h1, _⟩ := fidx_lt h
  rw [forB_iff] at h1
  refine ⟨i, hi, h1.1, h1.2, ?_, e⟩
  unfold giveM
  rw [if_pos h, e, rd_eq hi]
  simp only [wr, Int.toNat_natCast]
  congr 1
  rw [← h1.1, ← h1.2]
theorem giveM_miss {gs : List TGrant} {g : TGrant} {m : Int} (h : gs.any (forB g.Tx g.Res) = false) : giveM gs g m = gs ++ [⟨g.Tx, g.Res, m⟩] := by
  unfold giveM; rw [if_neg (by simp [h])]
theorem giveM_ok {gs : List TGrant} {g : TGrant} {m : Int} (hg : gOk ⟨g.Tx, g.Res, m⟩ = true) (hgs : ∀ x ∈ gs, gOk x = true) (hp : PairOk gs) (ha : gs.any (againstB g m) = false) :
    (∀ x ∈ giveM gs g m, gOk x = true) ∧ PairOk (giveM gs g m) := by
  rw [any_false] at ha
  cases h : gs.any (forB g.Tx g.Res) with
  | true =>
    obtain ⟨i, hi, h1, h2, e, _⟩ := giveM_hit (m := m) h
    rw [e]
    constructor
    · intro x hx
      rcases List.mem_or_eq_of_mem_set hx with h3 | rfl
      · exact hgs x h3
      · exact hg
    · intro a ha' b hb
      simp only [List.length_set] at ha'
      have hbl : b < gs.length := by omega
      simp only [List.getElem_set]
      by_cases hia : i = a
      · have hib : ¬ i = b := by omega
        rw [if_pos hia, if_neg hib]
        subst hia
        have h3 := hp i hi b hb
        rw [confB_false] at h3 ⊢
        intro hr
        have h4 := h3 (by rw [h2]; exact hr)
        rw [h1] at h4
        refine ⟨h4.1, ?_⟩
        have h5 := ha _ (List.getElem_mem hbl)
        rw [againstB_false] at h5
        rw [goesB_symm]; exact h5 hr h4.1
      · rw [if_neg hia]
        by_cases hib : i = b
        · rw [if_pos hib]
          subst hib
          have h3 := hp a ha' i hb
          rw [confB_false] at h3 ⊢
          intro hr
          have h4 := h3 (by rw [h2]; exact hr)
          rw [h1] at h4
          refine ⟨h4.1, ?_⟩
          have h5 := ha _ (List.getElem_mem ha')
          rw [againstB_false] at h5
          exact h5 hr.symm (fun e => h4.1 e.symm)
        · rw [if_neg hib]; exact hp a ha' b hb
  | false =>
    rw [giveM_miss h]
    rw [any_false] at h
    constructor
    · intro x hx
      rcases List.mem_append.1 hx with h3 | h3
      · exact hgs x h3
      · simp at h3; subst h3; exact hg
    · refine PairOk.of (List.pairwise_append.2 ⟨hp.pair, List.pairwise_singleton _ _, ?_⟩)
      intro a ha' b hb
      simp at hb; subst hb
      rw [confB_false]
      intro hr
      have h4 := h a ha'
      have h5 : a.Tx ≠ g.Tx := fun e => by
        have : forB g.Tx g.Res a = true := forB_iff.2 ⟨e, hr⟩
        rw [this] at h4; cases h4
      refine ⟨h5, ?_⟩
      have h6 := ha _ ha'
      rw [againstB_false] at h6
      rw [goesB_symm]; exact h6 hr h5
theorem wouldM_ok {gs : List TGrant} {g : TGrant} (hg : gOk g = true) (hgs : ∀ x ∈ gs, gOk x = true) : mB (wouldM gs g) = true ∧ bothM (wouldM gs g) g.Mode = wouldM gs g := by
  have hm : mB g.Mode = true := by simp [gOk] at hg; exact hg.2
  unfold wouldM
  split
  · rename_i h
    obtain ⟨i, hi, e, _⟩ := fidx_lt h
    rw [e, rd_eq hi]
    have h2 : mB gs[i].Mode = true := by have := hgs _ (List.getElem_mem hi); simp [gOk] at this; exact this.2
    refine ⟨(bothM_ok hm h2).1, ?_⟩
    rw [bothM_symm g.Mode]
    exact bothM_idem h2 hm
  · exact ⟨hm, bothM_self hm⟩
theorem gOk_mode {g : TGrant} {m : Int} (hg : gOk g = true) (hm : mB m = true) : gOk ⟨g.Tx, g.Res, m⟩ = true := by
  simp [gOk] at hg ⊢; exact ⟨hg.1, hm⟩
/-- What is given is found again. -/
theorem giveM_find {gs : List TGrant} {g : TGrant} {m : Int} (hp : PairOk (giveM gs g m)) : (giveM gs g m).any (forB g.Tx g.Res) = true ∧ (rd (giveM gs g m) (fidx (forB g.Tx g.Res) (giveM gs g m))).Mode = m ∧
    ∀ x ∈ giveM gs g m, x.Tx = g.Tx → x.Res = g.Res → x.Mode = m := by
  have key : (⟨g.Tx, g.Res, m⟩ : TGrant) ∈ giveM gs g m := by
    cases h : gs.any (forB g.Tx g.Res) with
    | true => obtain ⟨i, hi, h1, h2, e, _⟩ := giveM_hit (m := m) h; rw [e]; exact List.mem_set hi _
    | false => rw [giveM_miss h]; simp
  have h3 : ∀ x ∈ giveM gs g m, x.Tx = g.Tx → x.Res = g.Res → x.Mode = m := by
    intro x hx h1 h2
    obtain ⟨i, hi, rfl⟩ := List.getElem_of_mem hx
    obtain ⟨j, hj, e⟩ := List.getElem_of_mem key
    rcases Nat.lt_trichotomy i j with h | h | h
    · have := confB_false.1 (hp j hj i h) (by rw [e, h2])
      rw [e] at this; exact absurd h1 this.1
    · subst h; rw [e]
    · have := confB_false.1 (hp i hi j h) (by rw [e, h2])
      rw [e] at this; exact absurd h1.symm this.1
  have h1 : (giveM gs g m).any (forB g.Tx g.Res) = true := List.any_eq_true.2 ⟨_, key, by simp [forB]⟩
  refine ⟨h1, ?_, h3⟩
  obtain ⟨i, hi, e, h4, _⟩ := fidx_lt h1
  rw [e, rd_eq hi]
  rw [forB_iff] at h4
  exact h3 _ (List.getElem_mem hi) h4.1 h4.2
end Go.Proofs.Ytbcpkopchnlefaa
