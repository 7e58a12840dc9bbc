/- What comes in by a reading is of its kind: numbers, texts, rows, structs, arrays. Conditions: none. -/
import Derived.Test.YtocknibhajihmaaKwJ
import Derived.OpenShut
import Derived.WideShapes
set_option linter.unusedVariables false
set_option linter.unusedSimpArgs false
namespace Go.Kw
open Go.WideShapes

theorem addr2' (b off m j : Nat) : ((⟨b, off, none⟩ : Addr).add m).add j = ⟨b, off + m + j, none⟩ := by rw [addr_add (ad := ⟨b, off, none⟩) rfl, addr_add rfl]
def Tr {α : Type} (P : Program) (t : TypeId) (kd : Kd α) (W : α → Prop) : Prop := ∀ {H : Type} (enc : TypeId × Value → H) (w : World) (sp : Nat → Bool) (held : Bool) (fuel : Nat) (cs : List Value) (x : DataW H × List MemPlace),
  DataW.trod enc P w 0 sp held fuel t cs = some x → ∃ y, kd.K (hf w) y cs ∧ W y
theorem Tr.int {P : Program} {t : TypeId} {k : IntKind} (ht : P.underlying t = some (.int k)) : Tr P t (Kd.int k) (fun n => (Lit.int k n).wf = true) := by
  intro H enc w sp held fuel cs x h
  obtain ⟨n, rfl, _, hw⟩ := DataW.trod_int ht h
  exact ⟨n, rfl, hw⟩
theorem Tr.bool {P : Program} {t : TypeId} (ht : P.underlying t = some .bool) : Tr P t Kd.bool (fun _ => True) := by
  intro H enc w sp held fuel cs x h
  obtain ⟨n, rfl, _⟩ := DataW.trod_bool ht h
  exact ⟨n, rfl, trivial⟩
theorem Tr.str {P : Program} {t : TypeId} (ht : P.underlying t = some .string) : Tr P t Kd.str (fun s => s.size ≤ maxLen) := by
  intro H enc w sp held fuel cs x h
  obtain ⟨n, rfl, _, hw⟩ := DataW.trod_string ht h
  exact ⟨n, rfl, hw⟩
theorem pick_list {α : Type} {R : Nat → α → Prop} : ∀ (n : Nat), (∀ i, i < n → ∃ y, R i y) → ∃ ys : List α, ys.length = n ∧ ∀ i y, ys[i]? = some y → R i y
  | 0, _ => ⟨[], rfl, fun i y h => by simp at h⟩
  | n + 1, h => by
    obtain ⟨ys, hl, hy⟩ := pick_list n fun i hi => h i (by omega)
    obtain ⟨y, hR⟩ := h n (by omega)
    refine ⟨ys ++ [y], by simp [hl], fun i z hz => ?_⟩
    rw [List.getElem?_append] at hz
    split at hz
    · exact hy i z hz
    · rename_i hi
      have : i - ys.length = 0 := by
        rcases Nat.eq_zero_or_pos (i - ys.length) with h1 | h1
        · exact h1
        · rw [List.getElem?_eq_none (by simp; omega)] at hz; cases hz
      rw [this] at hz
      simp at hz; subst hz
      have : i = n := by omega
      subst this; exact hR
theorem Tr.slice {α : Type} {P : Program} {t e : TypeId} {kd : Kd α} {W : α → Prop} (ht : P.underlying t = some (.slice e)) (hc : P.cellsOf e = kd.sz) (hpos : 0 < kd.sz) (h : Tr P e kd W) : Tr P t (Kd.slice kd) (fun xs => xs.length ≤ maxLen ∧ ∀ x ∈ xs, W x) := by
  intro H enc w sp held fuel cs x hx
  rcases DataW.trod_slice ht hx with ⟨rfl, _⟩ | ⟨a, len, cap, elems, rest, n, _, rfl, _, hb, hl, hm, hlen, hel, _, _⟩
  · exact ⟨[], ⟨_, rfl, Sl.nil _ _ _ _⟩, by simp, by simp⟩
  · have each : ∀ i, i < len → ∃ y, (∃ c, kd.K (hf w) y c ∧ c.length = kd.sz ∧ ∀ j v, c[j]? = some v → w.cell? ((a.add (i * kd.sz)).add j) = some v) ∧ W y := by
      intro i hi
      have h1 := hel i hi
      have h2 : ∃ z, elems[i]? = some z := ⟨elems[i]'(by omega), List.getElem?_eq_getElem (by omega)⟩
      obtain ⟨z, hz⟩ := h2
      rw [hz, hc, Option.bind_eq_some_iff] at h1
      obtain ⟨c, hcs, hy⟩ := h1
      obtain ⟨y, hk, hw⟩ := h enc w sp held n c z hy
      obtain ⟨_, hcl, hcc⟩ := World.cells?_some hcs
      refine ⟨y, ⟨c, hk, hcl, fun j v hj => ?_⟩, hw⟩
      have hlt : j < kd.sz := by have := (List.getElem?_eq_some_iff.1 hj).1; omega
      rw [hcc j hlt]; exact hj
    obtain ⟨ys, hyl, hys⟩ := pick_list len each
    refine ⟨ys, ⟨_, rfl, a, cap, by rw [hyl], by omega, ?_⟩, by omega, ?_⟩
    · by_cases h0 : len = 0
      · exact .inl (List.eq_nil_of_length_eq_zero (by omega))
      · obtain ⟨⟨c0, hk0, hc0, hcc0⟩, _⟩ := hys 0 _ (List.getElem?_eq_getElem (by omega : 0 < ys.length))
        have hcell0 := hcc0 0 _ (List.getElem?_eq_getElem (by omega : 0 < c0.length))
        have hsp : a.spot = none := by
          have := World.cell?_spot hcell0
          simpa [Addr.add] using this
        obtain ⟨b, off, spot⟩ := a
        subst hsp
        have hh : ∃ cur T fr, w.heap[b]? = some (.cells cur T fr) := by
          rw [addr2'] at hcell0
          unfold World.cell? at hcell0
          split at hcell0
          · rename_i c T fr hg; exact ⟨c, T, fr, hg⟩
          · simp at hcell0
        obtain ⟨cur, T, fr, hg⟩ := hh
        refine .inr ⟨b, off, cur, T, fr, rfl, hg, fun i y hi => ?_⟩
        obtain ⟨⟨c, hk, hcl, hcc⟩, _⟩ := hys i y hi
        refine ⟨c, hk, fun j v hj => ?_⟩
        have := hcc j v hj
        rw [addr2'] at this
        simpa [World.cell?, hg] using this
    · intro y hy
      obtain ⟨i, hi⟩ := List.getElem?_of_mem hy
      exact (hys i y hi).2
/-- The fields of a struct, one behind the other from a place on. -/
def TrF {α : Type} (P : Program) (fs : List (Nat × TypeId)) (off : Nat) (kd : Kd α) (W : α → Prop) : Prop := ∀ {H : Type} (enc : TypeId × Value → H) (w : World) (sp : Nat → Bool) (held : Bool) (fuel : Nat) (cs : List Value),
  (∀ f ∈ fs, ∃ x, DataW.trod enc P w 0 sp held fuel f.2 ((cs.drop f.1).take (P.cellsOf f.2)) = some x) → cs.length = off + kd.sz → ∃ y, kd.K (hf w) y (cs.drop off) ∧ W y
theorem TrF.nil {P : Program} {off : Nat} : TrF P [] off Kd.unit (fun _ => True) := by
  intro H enc w sp held fuel cs _ hl
  refine ⟨(), ?_, trivial⟩
  show cs.drop off = []
  exact List.drop_eq_nil_of_le (by simpa [Kd.unit] using Nat.le_of_eq hl)
theorem TrF.cons {α β : Type} {P : Program} {off : Nat} {t : TypeId} {fs : List (Nat × TypeId)} {a : Kd α} {b : Kd β} {Wa : α → Prop} {Wb : β → Prop} (hc : P.cellsOf t = a.sz) (h : Tr P t a Wa) (k : TrF P fs (off + a.sz) b Wb) :
    TrF P ((off, t) :: fs) off (Kd.pair a b) (fun x => Wa x.1 ∧ Wb x.2) := by
  intro H enc w sp held fuel cs hfs hl
  obtain ⟨z, hz⟩ := hfs _ (List.mem_cons_self ..)
  obtain ⟨y1, hk1, hw1⟩ := h enc w sp held fuel _ z hz
  have hl' : cs.length = off + (a.sz + b.sz) := hl
  obtain ⟨y2, hk2, hw2⟩ := k enc w sp held fuel cs (fun f hf => hfs f (List.mem_cons_of_mem _ hf)) (by omega)
  refine ⟨(y1, y2), ⟨_, _, ?_, hk1, hk2⟩, hw1, hw2⟩
  dsimp only
  rw [hc, ← List.drop_drop, List.take_append_drop]
theorem Tr.struct {α β : Type} {P : Program} {t : TypeId} {fs : Array Field} {l : List (Nat × TypeId)} {a : Kd α} {W : α → Prop} {f : β → α} (g : α → β) (hg : ∀ x, f (g x) = x) (ht : P.underlying t = some (.struct fs)) (hl : fs.toList.map (fun f => (f.offset, f.type)) = l) (hc : P.cellsOf t = a.sz)
    (h : TrF P l 0 a W) : Tr P t (Kd.iso a f) (fun x => W (f x)) := by
  intro H enc w sp held fuel cs x hx
  obtain ⟨xs, n, _, _, hlen, hsz, hfs⟩ := DataW.trod_struct ht hx
  obtain ⟨y, hk, hw⟩ := h enc w sp held n cs (by
    intro p hp
    rw [← hl] at hp
    obtain ⟨fd, hfd, rfl⟩ := List.mem_map.1 hp
    obtain ⟨i, hi⟩ := List.getElem?_of_mem hfd
    have h1 := hfs i fd (by simpa using hi)
    have hlt : i < xs.length := by rw [hsz]; have := (List.getElem?_eq_some_iff.1 hi).1; simpa using this
    exact ⟨_, h1.trans (List.getElem?_eq_getElem hlt)⟩) (by rw [hlen, hc]; omega)
  refine ⟨g y, ?_, ?_⟩
  · show a.K (hf w) (f (g y)) cs
    rw [hg]; simpa using hk
  · show W (f (g y))
    rw [hg]; exact hw
def layOf (P : Program) (t : TypeId) : Option (List (Nat × TypeId)) := match P.underlying t with
  | some (.struct fs) => some (fs.toList.map fun f => (f.offset, f.type))
  | _ => none
theorem layL {P : Program} {t : TypeId} {l : List (Nat × TypeId)} (h : layOf P t = some l) : ∃ fs, P.underlying t = some (.struct fs) := by
  unfold layOf at h
  split at h
  · rename_i fs hfs; exact ⟨fs, hfs⟩
  · cases h
theorem Tr.structL {α β : Type} {P : Program} {t : TypeId} {l : List (Nat × TypeId)} {kd : Kd β} {a : Kd α} {W : α → Prop} {W' : β → Prop} {f : β → α} (hk : kd = Kd.iso a f) (g : α → β) (hg : ∀ x, f (g x) = x) (hl : layOf P t = some l) (hc : P.cellsOf t = a.sz)
    (hW : ∀ x, W (f x) → W' x) (h : TrF P l 0 a W) : Tr P t kd W' := by
  subst hk
  unfold layOf at hl
  split at hl
  · rename_i fs hfs
    intro H enc w sp held fuel cs x hx
    obtain ⟨y, h1, h2⟩ := Tr.struct g hg hfs (Option.some.inj hl) hc h enc w sp held fuel cs x hx
    exact ⟨y, h1, hW y h2⟩
  · cases hl
theorem Tr.arr {α : Type} {P : Program} {t e : TypeId} {n : Nat} {kd : Kd α} {W : α → Prop} (ht : P.underlying t = some (.array n e)) (hc : P.cellsOf e = kd.sz) (hct : P.cellsOf t = n * kd.sz) (h : Tr P e kd W) : Tr P t (Kd.arr n kd) (fun xs => xs.length = n ∧ ∀ x ∈ xs, W x) := by
  intro H enc w sp held fuel cs x hx
  obtain ⟨xs, m, _, _, hlen, hxl, hfs⟩ := DataW.trod_array ht hx
  rw [hct] at hlen
  have each : ∀ i, i < n → ∃ y, kd.K (hf w) y ((cs.drop (i * kd.sz)).take kd.sz) ∧ W y := by
    intro i hi
    have h1 := hfs i hi
    rw [hc, List.getElem?_eq_getElem (by omega)] at h1
    exact h enc w sp held m _ _ h1
  obtain ⟨ys, hyl, hys⟩ := pick_list n each
  refine ⟨ys, ⟨hyl, hlen, ?_, ?_⟩, hyl, ?_⟩
  · intro v hv
    obtain ⟨j, hj⟩ := List.getElem?_of_mem hv
    have hjl : j < n * kd.sz := by have := (List.getElem?_eq_some_iff.1 hj).1; omega
    have hpos : 0 < kd.sz := by
      rcases Nat.eq_zero_or_pos kd.sz with h0 | h0
      · rw [h0] at hjl; omega
      · exact h0
    have hq : j / kd.sz < n := (Nat.div_lt_iff_lt_mul hpos).2 hjl
    obtain ⟨hk, _⟩ := hys (j / kd.sz) _ (List.getElem?_eq_getElem (by omega))
    refine kd.one hk v ?_
    refine List.mem_of_getElem? (i := j % kd.sz) ?_
    rw [List.getElem?_take, if_pos (Nat.mod_lt _ hpos), List.getElem?_drop]
    have : j / kd.sz * kd.sz + j % kd.sz = j := by rw [Nat.mul_comm]; exact Nat.div_add_mod j kd.sz
    rw [this]; exact hj
  · intro i y hi
    obtain ⟨hk, _⟩ := hys i y hi
    refine ⟨_, hk, ?_⟩
    intro j v hj
    rw [List.getElem?_take] at hj
    split at hj
    · rw [List.getElem?_drop] at hj; simpa using hj
    · cases hj
  · intro y hy
    obtain ⟨i, hi⟩ := List.getElem?_of_mem hy
    exact (hys i y hi).2
end Go.Kw
