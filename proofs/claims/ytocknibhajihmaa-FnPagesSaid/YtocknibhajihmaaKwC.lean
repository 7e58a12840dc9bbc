/- Kinds of values: what cells say of them, for good or owned; pointers into them; loads, stores, appends. Conditions: none. -/
import Derived.Test.YtocknibhajihmaaKwB
set_option linter.unusedVariables false
set_option linter.unusedSimpArgs false
namespace Go.Kw

/-! ### kinds -/
structure Kd (α : Type) where
  sz : Nat
  agg : Bool
  K : HF → α → List Value → Prop
  len : ∀ {σ x cs}, K σ x cs → cs.length = sz
  one : ∀ {σ x cs}, K σ x cs → ∀ v ∈ cs, v.oneCell' = true
  mono : ∀ {σ σ' x cs}, Sub σ σ' → K σ x cs → K σ' x cs

def Kd.int (k : IntKind) : Kd Int where
  sz := 1
  agg := false
  K _ n cs := cs = [.int k n]
  len h := by subst h; rfl
  one h := by subst h; simp [Value.oneCell']
  mono _ h := h
def Kd.bool : Kd Bool where
  sz := 1
  agg := false
  K _ n cs := cs = [.bool n]
  len h := by subst h; rfl
  one h := by subst h; simp [Value.oneCell']
  mono _ h := h
def Kd.str : Kd ByteArray where
  sz := 1
  agg := false
  K _ n cs := cs = [.string n]
  len h := by subst h; rfl
  one h := by subst h; simp [Value.oneCell']
  mono _ h := h
/-- A cell as it is. -/
def Kd.raw : Kd Value where
  sz := 1
  agg := false
  K _ n cs := cs = [n] ∧ n.oneCell' = true
  len h := by rw [h.1]; rfl
  one h := by rw [h.1]; simpa using h.2
  mono _ h := h

/-- Elements one behind the other, from a place on. -/
def Rows {α : Type} (kd : Kd α) (σ : HF) (l : List Value) (o : Nat) (xs : List α) : Prop := ∀ i x, xs[i]? = some x → ∃ cs, kd.K σ x cs ∧ Win l (o + i * kd.sz) cs
theorem Rows.mono {α : Type} {kd : Kd α} {σ σ' : HF} {l : List Value} {o : Nat} {xs : List α} (h : Rows kd σ l o xs) (hs : Sub σ σ') : Rows kd σ' l o xs :=
  fun i x hi => let ⟨cs, hk, hw⟩ := h i x hi; ⟨cs, kd.mono hs hk, hw⟩
theorem Rows.nil {α : Type} (kd : Kd α) (σ : HF) (l : List Value) (o : Nat) : Rows kd σ l o [] := fun i x h => by simp at h

/-- A slice that is read: its value. -/
def Sl {α : Type} (kd : Kd α) (σ : HF) (v : Value) (xs : List α) : Prop :=
  ∃ A cap, v = .slice A xs.length cap ∧ xs.length ≤ cap ∧ (xs = [] ∨ ∃ g off cur T fr, A = some ⟨g, off, none⟩ ∧ σ g = some (.cells cur T fr) ∧ Rows kd σ cur.toList off xs)
theorem Sl.mono {α : Type} {kd : Kd α} {σ σ' : HF} {v : Value} {xs : List α} (h : Sl kd σ v xs) (hs : Sub σ σ') : Sl kd σ' v xs := by
  obtain ⟨A, cap, hv, hc, h⟩ := h
  refine ⟨A, cap, hv, hc, ?_⟩
  rcases h with h | ⟨g, off, cur, T, fr, hA, hg, hR⟩
  · exact .inl h
  · exact .inr ⟨g, off, cur, T, fr, hA, hs _ _ hg, hR.mono hs⟩
theorem Sl.nil {α : Type} (kd : Kd α) (σ : HF) (A : Option Addr) (cap : Nat) : Sl kd σ (.slice A 0 cap) [] := ⟨A, cap, rfl, Nat.zero_le _, .inl rfl⟩

def Kd.slice {α : Type} (kd : Kd α) : Kd (List α) where
  sz := 1
  agg := false
  K σ xs cs := ∃ v, cs = [v] ∧ Sl kd σ v xs
  len h := by obtain ⟨v, rfl, _⟩ := h; rfl
  one h := by obtain ⟨v, rfl, A, cap, rfl, _⟩ := h; simp [Value.oneCell']
  mono hs h := by obtain ⟨v, rfl, h⟩ := h; exact ⟨v, rfl, h.mono hs⟩
def Kd.pair {α β : Type} (a : Kd α) (b : Kd β) : Kd (α × β) where
  sz := a.sz + b.sz
  agg := true
  K σ x cs := ∃ c1 c2, cs = c1 ++ c2 ∧ a.K σ x.1 c1 ∧ b.K σ x.2 c2
  len h := by obtain ⟨c1, c2, rfl, h1, h2⟩ := h; simp [a.len h1, b.len h2]
  one h := by
    obtain ⟨c1, c2, rfl, h1, h2⟩ := h
    intro v hv
    rcases List.mem_append.1 hv with h | h
    · exact a.one h1 v h
    · exact b.one h2 v h
  mono hs h := by obtain ⟨c1, c2, rfl, h1, h2⟩ := h; exact ⟨c1, c2, rfl, a.mono hs h1, b.mono hs h2⟩
def Kd.unit : Kd Unit where
  sz := 0
  agg := true
  K _ _ cs := cs = []
  len h := by subst h; rfl
  one h := by subst h; simp
  mono _ h := h
def Kd.iso {α β : Type} (a : Kd α) (f : β → α) : Kd β where
  sz := a.sz
  agg := true
  K σ x cs := a.K σ (f x) cs
  len h := a.len h
  one h := a.one h
  mono hs h := a.mono hs h
def Kd.arr {α : Type} (n : Nat) (a : Kd α) : Kd (List α) where
  sz := n * a.sz
  agg := true
  K σ xs cs := xs.length = n ∧ cs.length = n * a.sz ∧ (∀ v ∈ cs, v.oneCell' = true) ∧ Rows a σ cs 0 xs
  len h := h.2.1
  one h := h.2.2.1
  mono hs h := ⟨h.1, h.2.1, h.2.2.1, h.2.2.2.mono hs⟩

/-- Reading element i, whatever stands beyond. -/
def rd {α : Type} [Inhabited α] (xs : List α) (i : Int) : α := xs.getD i.toNat default
theorem rd_get {α : Type} [Inhabited α] {xs : List α} {i : Int} (h0 : 0 ≤ i) (h1 : i < xs.length) : xs[i.toNat]? = some (rd xs i) := by
  have : i.toNat < xs.length := by omega
  simp [rd, this]
/-- Writing element i. -/
def wr {α : Type} (xs : List α) (i : Int) (x : α) : List α := xs.set i.toNat x
theorem wr_length {α : Type} (xs : List α) (i : Int) (x : α) : (wr xs i x).length = xs.length := by simp [wr]

/-! ### a part of a value -/
structure Lens {α β : Type} (kd : Kd α) (kd' : Kd β) where
  off : Nat
  get : α → β
  set : α → β → α
  hget : ∀ {σ x cs}, kd.K σ x cs → ∃ l m r, cs = l ++ m ++ r ∧ l.length = off ∧ kd'.K σ (get x) m
  hset : ∀ {σ x l m r y m'}, kd.K σ x (l ++ m ++ r) → l.length = off → m.length = kd'.sz → kd'.K σ y m' → kd.K σ (set x y) (l ++ m' ++ r)

def Lens.id {α : Type} (kd : Kd α) : Lens kd kd where
  off := 0
  get x := x
  set _ y := y
  hget h := ⟨[], _, [], by simp, rfl, h⟩
  hset := by
    intro σ x l m r y m' h hl hm hy
    have hl0 : l = [] := List.eq_nil_of_length_eq_zero hl
    subst hl0
    have := kd.len h
    have hr0 : r = [] := List.eq_nil_of_length_eq_zero (by simp at this; omega)
    subst hr0
    simpa using hy

def Lens.fst {α β : Type} (a : Kd α) (b : Kd β) : Lens (Kd.pair a b) a where
  off := 0
  get x := x.1
  set x y := (y, x.2)
  hget h := by obtain ⟨c1, c2, rfl, h1, h2⟩ := h; exact ⟨[], c1, c2, by simp, rfl, h1⟩
  hset := by
    intro σ x l m r y m' h hl hm hy
    have hl0 : l = [] := List.eq_nil_of_length_eq_zero hl
    subst hl0
    obtain ⟨c1, c2, he, h1, h2⟩ := h
    simp only [List.nil_append] at he
    have := List.append_inj he (by rw [hm, a.len h1])
    obtain ⟨rfl, rfl⟩ := this
    exact ⟨m', r, by simp, hy, h2⟩
def Lens.snd {α β : Type} (a : Kd α) (b : Kd β) : Lens (Kd.pair a b) b where
  off := a.sz
  get x := x.2
  set x y := (x.1, y)
  hget h := by obtain ⟨c1, c2, rfl, h1, h2⟩ := h; exact ⟨c1, c2, [], by simp, a.len h1, h2⟩
  hset := by
    intro σ x l m r y m' h hl hm hy
    obtain ⟨c1, c2, he, h1, h2⟩ := h
    rw [List.append_assoc] at he
    have := List.append_inj he (by rw [hl, a.len h1])
    obtain ⟨rfl, rfl⟩ := this
    have h3 := b.len h2
    have hr0 : r = [] := List.eq_nil_of_length_eq_zero (by simp at h3; omega)
    subst hr0
    exact ⟨l, m', by simp, h1, hy⟩
def Lens.iso {α β : Type} (a : Kd α) (f : β → α) (g : α → β) (hfg : ∀ x, f (g x) = x) : Lens (Kd.iso a f) a where
  off := 0
  get := f
  set _ y := g y
  hget h := ⟨[], _, [], by simp, rfl, h⟩
  hset := by
    intro σ x l m r y m' h hl hm hy
    have hl0 : l = [] := List.eq_nil_of_length_eq_zero hl
    subst hl0
    have h' : a.K σ (f x) ([] ++ m ++ r) := h
    have := a.len h'
    have hr0 : r = [] := List.eq_nil_of_length_eq_zero (by simp at this; omega)
    subst hr0
    show a.K σ (f (g y)) _
    rw [hfg]
    simpa using hy
def Lens.comp {α β γ : Type} {a : Kd α} {b : Kd β} {c : Kd γ} (p : Lens a b) (q : Lens b c) : Lens a c where
  off := p.off + q.off
  get x := q.get (p.get x)
  set x y := p.set x (q.set (p.get x) y)
  hget := by
    intro σ x cs h
    obtain ⟨l, m, r, rfl, hl, hm⟩ := p.hget h
    obtain ⟨l', m', r', rfl, hl', hm'⟩ := q.hget hm
    exact ⟨l ++ l', m', r' ++ r, by simp, by simp [hl, hl'], hm'⟩
  hset := by
    intro σ x l m r y m' h hl hm hy
    obtain ⟨l1, m1, r1, he, hl1, hm1⟩ := p.hget h
    obtain ⟨l2, m2, r2, rfl, hl2, hm2⟩ := q.hget hm1
    have e1 : l ++ (m ++ r) = (l1 ++ l2) ++ (m2 ++ (r2 ++ r1)) := by simpa using he
    obtain ⟨rfl, e2⟩ := List.append_inj e1 (by simp [hl, hl1, hl2])
    obtain ⟨rfl, rfl⟩ := List.append_inj e2 (by rw [hm, c.len hm2])
    have h3 := q.hset hm1 hl2 hm hy
    have h4 : a.K σ x (l1 ++ (l2 ++ m ++ r2) ++ r1) := by simpa using h
    have := p.hset h4 hl1 (b.len hm1) h3
    simpa using this
theorem rows_set {α : Type} {a : Kd α} {σ : HF} {l m m' r : List Value} {o i : Nat} {xs : List α} {y : α} (h : Rows a σ (l ++ m ++ r) o xs) (hl : l.length = o + i * a.sz) (hm : m.length = a.sz) (hy : a.K σ y m') :
    Rows a σ (l ++ m' ++ r) o (xs.set i y) := by
  have hm' := a.len hy
  intro j x hj
  rw [List.getElem?_set] at hj
  split at hj
  · rename_i hij
    subst hij
    split at hj
    · cases hj
      refine ⟨m', hy, ?_⟩
      rw [← hl]
      exact win_mid l m' r
    · cases hj
  · rename_i hij
    obtain ⟨cs, hk, hw⟩ := h j x hj
    refine ⟨cs, hk, hw.mono ?_⟩
    intro q hq1 hq2
    rw [a.len hk] at hq2
    rcases Nat.lt_or_gt_of_ne hij with h1 | h1
    · have : (i + 1) * a.sz ≤ j * a.sz := Nat.mul_le_mul_right _ h1
      rw [Nat.add_mul] at this
      have hge : l.length + a.sz ≤ q := by omega
      rw [List.append_assoc, List.append_assoc, List.getElem?_append_right (by omega), List.getElem?_append_right (by omega), List.getElem?_append_right (by omega), List.getElem?_append_right (by omega), hm, hm']
    · have : (j + 1) * a.sz ≤ i * a.sz := Nat.mul_le_mul_right _ h1
      rw [Nat.add_mul] at this
      have hlt : q < l.length := by omega
      rw [List.append_assoc, List.append_assoc, List.getElem?_append_left hlt, List.getElem?_append_left hlt]
theorem rows_split {α : Type} {a : Kd α} {σ : HF} {l : List Value} {o i : Nat} {xs : List α} {x : α} (h : Rows a σ l o xs) (hi : xs[i]? = some x) (hb : o + xs.length * a.sz ≤ l.length) :
    ∃ p m r, l = p ++ m ++ r ∧ p.length = o + i * a.sz ∧ a.K σ x m := by
  obtain ⟨cs, hk, hw⟩ := h i x hi
  have hlt : i < xs.length := (List.getElem?_eq_some_iff.1 hi).1
  have hm : (i + 1) * a.sz ≤ xs.length * a.sz := Nat.mul_le_mul_right _ hlt
  rw [Nat.add_mul] at hm
  have hlen := a.len hk
  have he := hw.eq (by omega)
  refine ⟨l.take (o + i * a.sz), cs, l.drop (o + i * a.sz + a.sz), ?_, ?_, hk⟩
  · have h1 : l.drop (o + i * a.sz) = cs ++ l.drop (o + i * a.sz + a.sz) := by
      rw [hlen] at he
      have h2 := (List.take_append_drop a.sz (l.drop (o + i * a.sz))).symm
      rw [he, List.drop_drop] at h2
      exact h2
    rw [List.append_assoc, ← h1, List.take_append_drop]
  · rw [List.length_take]; omega
def Lens.idx {α : Type} [Inhabited α] (n : Nat) (a : Kd α) (i : Int) (h0 : 0 ≤ i) (h1 : i < n) : Lens (Kd.arr n a) a where
  off := i.toNat * a.sz
  get xs := rd xs i
  set xs y := wr xs i y
  hget := by
    intro σ x cs h
    obtain ⟨hx, hc, ho, hR⟩ := h
    have := rows_split hR (rd_get h0 (by omega)) (by rw [hx, hc]; omega)
    simpa using this
  hset := by
    intro σ x l m r y m' h hl hm hy
    obtain ⟨hx, hc, ho, hR⟩ := h
    refine ⟨by simp [wr, hx], ?_, ?_, ?_⟩
    · have := a.len hy
      simp at hc ⊢; omega
    · intro v hv
      simp only [List.mem_append] at hv
      rcases hv with (hv | hv) | hv
      · exact ho v (by simp [hv])
      · exact a.one hy v hv
      · exact ho v (by simp [hv])
    · have := rows_set (i := i.toNat) hR (by rw [hl]; omega) hm hy
      exact this

/-! ### a pointer to what is read for good -/
def Pr {α : Type} (kd : Kd α) (σ : HF) (ad : Addr) (x : α) : Prop :=
  ad.spot = none ∧ ∃ cur T fr cs, σ ad.block = some (.cells cur T fr) ∧ kd.K σ x cs ∧ Win cur.toList ad.off cs
theorem Pr.mono {α : Type} {kd : Kd α} {σ σ' : HF} {ad : Addr} {x : α} (h : Pr kd σ ad x) (hs : Sub σ σ') : Pr kd σ' ad x := by
  obtain ⟨h1, cur, T, fr, cs, h2, h3, h4⟩ := h
  exact ⟨h1, cur, T, fr, cs, hs _ _ h2, kd.mono hs h3, h4⟩
theorem addr_add {ad : Addr} (h : ad.spot = none) (m : Nat) : ad.add m = ⟨ad.block, ad.off + m, none⟩ := by
  cases ad
  simp at h
  subst h
  unfold Addr.add
  split
  · rename_i h0; subst h0; rfl
  · rfl
theorem Pr.lens {α β : Type} {kd : Kd α} {kd' : Kd β} {σ : HF} {ad : Addr} {x : α} (h : Pr kd σ ad x) (p : Lens kd kd') : Pr kd' σ (ad.add p.off) (p.get x) := by
  obtain ⟨h1, cur, T, fr, cs, h2, h3, h4⟩ := h
  rw [addr_add h1]
  obtain ⟨l, m, r, rfl, hl, hm⟩ := p.hget h3
  refine ⟨rfl, cur, T, fr, m, h2, hm, ?_⟩
  rw [← hl]
  exact h4.sub
def RoOk (σ : HF) (w : World) : Prop := ∀ b o, σ b = some o → w.heap[b]? = some o
theorem RoOk.sub {σ σ' : HF} {w : World} (h : RoOk σ' w) (k : Sub σ σ') : RoOk σ w := fun b o hb => h b o (k b o hb)
theorem Pr.cells {α : Type} {kd : Kd α} {σ : HF} {ad : Addr} {x : α} (h : Pr kd σ ad x) :
    ∃ cs, kd.K σ x cs ∧ ∀ w, RoOk σ w → ∀ j v, cs[j]? = some v → w.cell? (ad.add j) = some v := by
  obtain ⟨h1, cur, T, fr, cs, h2, h3, h4⟩ := h
  refine ⟨cs, h3, ?_⟩
  intro w hw j v hj
  have := h4 j v hj
  rw [addr_add h1]
  simp only [World.cell?, hw _ _ h2]
  simpa using this
theorem Pr.cell {α : Type} {kd : Kd α} {e : En} {σ : HF} {w : World} {A : List Asn} {ad : Addr} {x : α} (h : Pr kd σ ad x) (hS : St e σ w A) :
    ∃ cs, kd.K σ x cs ∧ ∀ j v, cs[j]? = some v → w.cell? (ad.add j) = some v := by
  obtain ⟨h1, cur, T, fr, cs, h2, h3, h4⟩ := h
  refine ⟨cs, h3, ?_⟩
  intro j v hj
  have := h4 j v hj
  rw [addr_add h1]
  simp only [World.cell?, hS.ro _ _ h2]
  simpa using this
theorem Sl.at {α : Type} [Inhabited α] {kd : Kd α} {σ : HF} {v : Value} {xs : List α} (h : Sl kd σ v xs) {i : Int} (h0 : 0 ≤ i) (h1 : i < xs.length) :
    ∃ ad cap, v = .slice (some ad) xs.length cap ∧ Pr kd σ (ad.add (i.toNat * kd.sz)) (rd xs i) := by
  obtain ⟨A, cap, hv, hc, h | ⟨g, off, cur, T, fr, hA, hg, hR⟩⟩ := h
  · subst h; simp at h1; omega
  · subst hA
    obtain ⟨cs, hk, hw⟩ := hR _ _ (rd_get h0 h1)
    refine ⟨⟨g, off, none⟩, cap, hv, ?_⟩
    rw [addr_add rfl]
    exact ⟨rfl, cur, T, fr, cs, hg, hk, hw⟩

/-! ### types -/
def TyI (P : Program) (t : TypeId) (size : Nat) (bytes : Nat) (z : Option Value) : Prop := ∃ i, P.info? t = some i ∧ i.size = size ∧ i.bytes = bytes ∧ i.zero = z
theorem TyI.size {P : Program} {t : TypeId} {size bytes : Nat} {z : Option Value} (h : TyI P t size bytes z) (w : World) : (sizeOf t).run P w = .ok size w := by
  obtain ⟨i, hi, hs, _⟩ := h
  simp [sizeOf, typeInfo, hi, hs]
def IsAgg (P : Program) (t : TypeId) (b : Bool) : Prop := ∃ d, P.underlying t = some d ∧ (match d with | .struct _ | .array _ _ => true | _ => false) = b
theorem IsAgg.run {P : Program} {t : TypeId} {b : Bool} (h : IsAgg P t b) (w : World) : (isAgg t).run P w = .ok b w := by
  obtain ⟨d, hd, hb⟩ := h
  unfold isAgg
  simp only [underlying, Sem.run_bind, run_program, Result.andThen_ok, hd, Sem.run_pure]
  cases d <;> simp at hb <;> subst hb <;> rfl

theorem run_loadCells {P : Program} {w : World} {ad : Addr} : ∀ (cs : List Value) (i : Nat) (acc : Array Value), (∀ j v, cs[j]? = some v → w.cell? (ad.add (i + j)) = some v) →
    (loadCellsFrom ad i cs.length acc).run P w = .ok (acc ++ cs.toArray) w
  | [], i, acc, _ => by simp [loadCellsFrom]
  | v :: r, i, acc, h => by
    have h0 := h 0 v rfl
    simp only [Nat.add_zero] at h0
    have ih := run_loadCells (P := P) r (i + 1) (acc.push v) (fun j u hj => by have := h (j + 1) u (by simpa using hj); rwa [show i + 1 + j = i + (j + 1) from by omega])
    simp only [List.length_cons, loadCellsFrom, Sem.run_bind, run_load, h0, Result.andThen_ok, ih]
    simp

section
variable {P : Program} {L : List (Nat × Value)} {w : World} {d : Option Nat} {ty : TypeId} {pos : String} {af : Array Edge} {g : Option (Nat × Bool)}

theorem p_load_cells {t : TypeId} {x : Operand} {ad : Addr} {cs : List Value} {bytes : Nat} {z : Option Value} (hx : ev L x = some (.pointer (some ad))) (ha : IsAgg P t true) (ht : TyI P t cs.length bytes z)
    (h : ∀ j v, cs[j]? = some v → w.cell? (ad.add j) = some v) : Pu P L ⟨d, .load t x, ty, pos, af, g⟩ w (.agg cs.toArray) := by
  intro ρ hρ
  have := run_loadCells (P := P) (w := w) (ad := ad) cs 0 #[] (by simpa using h)
  simp [execOp, hρ x _ hx, Instr.loadAt, Instr.sureAddr, loadVar, ha.run w, ht.size w, loadCells, this]
theorem p_load_one {t : TypeId} {x : Operand} {ad : Addr} {v : Value} (hx : ev L x = some (.pointer (some ad))) (ha : IsAgg P t false) (h : w.cell? ad = some v) :
    Pu P L ⟨d, .load t x, ty, pos, af, g⟩ w v := by
  intro ρ hρ
  simp [execOp, hρ x _ hx, Instr.loadAt, Instr.sureAddr, loadVar, ha.run w, h]

variable {e : En} {σ : HF} {A : List Asn}
theorem p_ldr_agg {α : Type} {kd : Kd α} {t : TypeId} {ad : Addr} {y : α} {bytes : Nat} {z : Option Value} (hP : Pr kd σ ad y) (ha : IsAgg P t true) (ht : TyI P t kd.sz bytes z) :
    ∃ cs, kd.K σ y cs ∧ ∀ {L x w d ty pos af g}, ev L x = some (.pointer (some ad)) → RoOk σ w → Pu P L ⟨d, .load t x, ty, pos, af, g⟩ w (.agg cs.toArray) := by
  obtain ⟨cs, hk, hc⟩ := hP.cells
  exact ⟨cs, hk, fun {L x w d ty pos af g} hx hw => p_load_cells hx ha (by rw [kd.len hk]; exact ht) (hc w hw)⟩
theorem p_ldr_int {k : IntKind} {t : TypeId} {x : Operand} {ad : Addr} {y : Int} (hx : ev L x = some (.pointer (some ad))) (hS : St e σ w A) (hP : Pr (Kd.int k) σ ad y) (ha : IsAgg P t false) :
    Pu P L ⟨d, .load t x, ty, pos, af, g⟩ w (.int k y) := by
  obtain ⟨cs, rfl, hc⟩ := hP.cell hS
  exact p_load_one hx ha (by have := hc 0 _ rfl; rwa [show ad.add 0 = ad from rfl] at this)
theorem p_ldr_bool {t : TypeId} {x : Operand} {ad : Addr} {y : Bool} (hx : ev L x = some (.pointer (some ad))) (hS : St e σ w A) (hP : Pr Kd.bool σ ad y) (ha : IsAgg P t false) :
    Pu P L ⟨d, .load t x, ty, pos, af, g⟩ w (.bool y) := by
  obtain ⟨cs, rfl, hc⟩ := hP.cell hS
  exact p_load_one hx ha (by have := hc 0 _ rfl; rwa [show ad.add 0 = ad from rfl] at this)
theorem p_ldr_str {t : TypeId} {x : Operand} {ad : Addr} {y : ByteArray} (hx : ev L x = some (.pointer (some ad))) (hS : St e σ w A) (hP : Pr Kd.str σ ad y) (ha : IsAgg P t false) :
    Pu P L ⟨d, .load t x, ty, pos, af, g⟩ w (.string y) := by
  obtain ⟨cs, rfl, hc⟩ := hP.cell hS
  exact p_load_one hx ha (by have := hc 0 _ rfl; rwa [show ad.add 0 = ad from rfl] at this)
theorem p_ldr_slice {α : Type} {kd : Kd α} {t : TypeId} {ad : Addr} {y : List α} (hP : Pr (Kd.slice kd) σ ad y) (ha : IsAgg P t false) :
    ∃ v, Sl kd σ v y ∧ ∀ {L x w d ty pos af g}, ev L x = some (.pointer (some ad)) → RoOk σ w → Pu P L ⟨d, .load t x, ty, pos, af, g⟩ w v := by
  obtain ⟨cs, ⟨v, rfl, hs⟩, hc⟩ := hP.cells
  exact ⟨v, hs, fun {L x w d ty pos af g} hx hw => p_load_one hx ha (by have := hc w hw 0 _ rfl; rwa [show ad.add 0 = ad from rfl] at this)⟩

theorem p_idxr {α : Type} [Inhabited α] {kd : Kd α} {t e : TypeId} {i : Int} {v : Value} {xs : List α} {bytes : Nat} {z : Option Value}
    (hs : Sl kd σ v xs) (ht : P.underlying t = some (.slice e)) (he : TyI P e kd.sz bytes z) (h0 : 0 ≤ i) (h1 : i < xs.length) :
    ∃ ad, Pr kd σ ad (rd xs i) ∧ ∀ {L x y k w d ty pos af g}, ev L x = some v → ev L y = some (.int k i) → Pu P L ⟨d, .indexAddr t x y, ty, pos, af, g⟩ w (.pointer (some ad)) := by
  obtain ⟨ad, cap, rfl, hp⟩ := hs.at h0 h1
  refine ⟨_, hp, fun {L x y k w d ty pos af g} hx hy => ?_⟩
  intro ρ hρ
  simp [execOp, hρ x _ hx, hρ y _ hy, Instr.indexAt, asIntOf, underlying, ht, h0, h1, he.size w]

def FldI (P : Program) (s : TypeId) (f : Nat) (off : Nat) : Prop := ∃ fs fd n, P.underlying s = some (.struct fs) ∧ fs[f]? = some fd ∧ fd.offset = off ∧ (∀ w : World, (sizeOf fd.type).run P w = .ok (n + 1) w)
theorem p_fld {s : TypeId} {x : Operand} {f off : Nat} {ad : Addr} (hx : ev L x = some (.pointer (some ad))) (hf : FldI P s f off) :
    Pu P L ⟨d, .fieldAddr s x f, ty, pos, af, g⟩ w (.pointer (some (ad.add off))) := by
  obtain ⟨fs, fd, n, hs, hfd, ho, hn⟩ := hf
  intro ρ hρ
  simp [execOp, hρ x _ hx, Instr.fieldAt, underlying, hs, hfd, Instr.sureAddr, fieldPlace, hn w, ho]

/-- The element of an array behind a pointer. -/
theorem p_idxa {t e : TypeId} {x y : Operand} {k : IntKind} {i : Int} {n sz : Nat} {ad : Addr} {bytes : Nat} {z : Option Value}
    (hx : ev L x = some (.pointer (some ad))) (hy : ev L y = some (.int k i)) (ht : P.underlying t = some (.array n e)) (he : TyI P e sz bytes z) (h0 : 0 ≤ i) (h1 : i < n) :
    Pu P L ⟨d, .indexAddr t x y, ty, pos, af, g⟩ w (.pointer (some (ad.add (i.toNat * sz)))) := by
  intro ρ hρ
  have : ¬ n = 0 := by omega
  simp [execOp, hρ x _ hx, hρ y _ hy, Instr.indexAt, asIntOf, underlying, ht, h0, h1, he.size w, Instr.sureAddr]

/-- A field of a struct's value. -/
def FldV (P : Program) (s : TypeId) (f : Nat) (ft : TypeId) (off : Nat) : Prop := ∃ fs fd, P.underlying s = some (.struct fs) ∧ fs[f]? = some fd ∧ fd.offset = off ∧ fd.type = ft
theorem p_field_agg {s ft : TypeId} {x : Operand} {f : Nat} {l m r : List Value} {bytes : Nat} {z : Option Value} (hx : ev L x = some (.agg (l ++ m ++ r).toArray)) (hf : FldV P s f ft l.length) (ha : IsAgg P ft true) (ht : TyI P ft m.length bytes z) :
    Pu P L ⟨d, .field s x f, ty, pos, af, g⟩ w (.agg m.toArray) := by
  obtain ⟨fs, fd, hs, hfd, ho, rfl⟩ := hf
  intro ρ hρ
  have : (l ++ m ++ r).toArray.extract l.length (l.length + m.length) = m.toArray := by
    simp
  simp only [execOp, hρ x _ hx, Instr.field, Sem.run_bind, underlying, run_program, hs, hfd, Result.andThen_ok, Sem.run_pure, part, ha.run w, asAgg, ht.size w, ho, if_true, this]
theorem p_field_one {s ft : TypeId} {x : Operand} {f : Nat} {l r : List Value} {v : Value} (hx : ev L x = some (.agg (l ++ [v] ++ r).toArray)) (hf : FldV P s f ft l.length) (ha : IsAgg P ft false) :
    Pu P L ⟨d, .field s x f, ty, pos, af, g⟩ w v := by
  obtain ⟨fs, fd, hs, hfd, ho, rfl⟩ := hf
  intro ρ hρ
  have : (l ++ [v] ++ r).toArray[l.length]? = some v := by simp
  simp only [execOp, hρ x _ hx, Instr.field, Sem.run_bind, underlying, run_program, hs, hfd, Result.andThen_ok, Sem.run_pure, part, ha.run w, asAgg, ho, this]
  simp

theorem p_len {t e : TypeId} {x : Operand} {a : Option Addr} {n c : Nat} (ht : P.underlying t = some (.slice e)) (hx : ev L x = some (.slice a n c)) :
    Pu P L ⟨d, .call { callee := .builtin .len, args := #[x], argTypes := #[t] }, ty, pos, af, g⟩ w (.int .i64 n) := by
  intro ρ hρ
  simp [execOp, resolve, hρ x _ hx, invoke, builtin, Builtin.len_, underlying, ht, goInt]
theorem p_lenr {α : Type} {kd : Kd α} {t e : TypeId} {x : Operand} {v : Value} {xs : List α} (ht : P.underlying t = some (.slice e)) (hx : ev L x = some v) (hs : Sl kd σ v xs) :
    Pu P L ⟨d, .call { callee := .builtin .len, args := #[x], argTypes := #[t] }, ty, pos, af, g⟩ w (.int .i64 xs.length) := by
  obtain ⟨A, cap, rfl, _⟩ := hs
  exact p_len ht hx
theorem p_lens {t : TypeId} {x : Operand} {s : ByteArray} (ht : P.underlying t = some .string) (hx : ev L x = some (.string s)) :
    Pu P L ⟨d, .call { callee := .builtin .len, args := #[x], argTypes := #[t] }, ty, pos, af, g⟩ w (.int .i64 s.size) := by
  intro ρ hρ
  simp [execOp, resolve, hρ x _ hx, invoke, builtin, Builtin.len_, underlying, ht, goInt]
theorem p_extract {x : Operand} {i : Nat} {vs : List Value} {v : Value} (hx : ev L x = some (.tuple vs.toArray)) (hv : vs[i]? = some v) :
    Pu P L ⟨d, .extract x i, ty, pos, af, g⟩ w v := by
  intro ρ hρ
  simp [execOp, hρ x _ hx, Instr.extract, hv]
theorem p_makefunc {fn : Fn} {fs cs : List Operand} {vf vc : List Value} (hf : evs L fs = some vf) (hc : evs L cs = some vc) :
    Pu P L ⟨d, .makeFunc fn fs.toArray cs.toArray, ty, pos, af, g⟩ w (.func fn vf.toArray vc.toArray) := by
  intro ρ hρ
  simp [execOp, Instr.makeFunc, evs_map hρ hf, evs_map hρ hc]
end
end Go.Kw
