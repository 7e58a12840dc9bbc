/- The forms in which a program prints its steps. Conditions: none. -/
import Derived.Test.YtocknibhajihmaaKwG
set_option linter.unusedVariables false
set_option linter.unusedSimpArgs false
namespace Go.Kw
section
variable {P : Program} {ops : Array Oper} {Q : Exit → Act → World → Prop} {rest : List Oper} {n : Nat} {a : Act} {L : List (Nat × Value)} {w : World}

theorem pl_ {x : Operand} {v : Value} (hF : Fr n a L) (h : ev L x = some v) : ev L x = some v := h

theorem gonE {dst : Option Nat} {op : Op} {ty : TypeId} {pos : String} {af : Array Edge} {j t : Nat} {b b' : Bool} (hF : Fr n a L) (hj : (ops[j]?).bind (·.dst) = some t) (ht : lk L t = some (.bool b')) (hb : b' = b)
    (k : wpList P ops Q (⟨dst, op, ty, pos, af, none⟩ :: rest) a w) : wpList P ops Q (⟨dst, op, ty, pos, af, some (j, b)⟩ :: rest) a w := by
  subst hb
  exact gon (o := ⟨dst, op, ty, pos, af, some (j, b')⟩) hF rfl hj ht k

/-! ### a drawn region, step by step -/
def KAll (P : Program) (ops : Array Oper) (L : List (Nat × Value)) (w : World) : List Nat → Prop
  | [] => True
  | p :: r => Know P ops L w p ∧ KAll P ops L w r
theorem kall {L : List (Nat × Value)} {w : World} : ∀ {l : List Nat}, KAll P ops L w l → ∀ p ∈ l, Know P ops L w p
  | [], _, p, hp => by cases hp
  | q :: r, ⟨h1, h2⟩, p, hp => by
    rcases List.mem_cons.1 hp with rfl | hp
    · exact h1
    · exact kall h2 p hp
theorem Know.cons {L : List (Nat × Value)} {w : World} {i d : Nat} {v : Value} (h : Know P ops L w i) (hd : lk L d = none) : Know P ops ((d, v) :: L) w i := by
  obtain ⟨o, d', v', h1, h2, h3, h4, h5⟩ := h
  have hm := lk_cons_mono (v := v) hd
  refine ⟨o, d', v', h1, h2, hm _ _ h3, h4, ?_⟩
  cases hg : o.guard with
  | none => rw [hg] at h5; exact h5.mono hm
  | some jb =>
    obtain ⟨j, b⟩ := jb
    rw [hg] at h5
    obtain ⟨t, b', h6, h7, h8, h9⟩ := h5
    exact ⟨t, b', h6, hm _ _ h7, fun h => (h8 h).mono hm, h9⟩
def Pk (P : Program) (ops : Array Oper) (n : Nat) (Q : Exit → Act → World → Prop) (todo pend : List Nat) (L : List (Nat × Value)) (w : World) : Prop := (∀ p ∈ pend, Know P ops L w p) → Plan P ops n Q todo.length todo pend L w
theorem knw {L : List (Nat × Value)} {w : World} {i d : Nat} {op : Op} {ty : TypeId} {pos : String} {af : Array Edge} {v : Value} (ho : ops[i]? = some ⟨some d, op, ty, pos, af, none⟩) (hl : lk L d = some v) (hs : noSel op = true) (hp : Pu P L ⟨some d, op, ty, pos, af, none⟩ w v) : Know P ops L w i :=
  ⟨_, d, v, ho, rfl, hl, hs, hp⟩
theorem knwOn {L : List (Nat × Value)} {w : World} {i d j t : Nat} {b b' : Bool} {op : Op} {ty : TypeId} {pos : String} {af : Array Edge} {v : Value} (ho : ops[i]? = some ⟨some d, op, ty, pos, af, some (j, b)⟩) (hl : lk L d = some v) (hs : noSel op = true)
    (hj : (ops[j]?).bind (·.dst) = some t) (ht : lk L t = some (.bool b')) (hb : b' = b) (hp : Pu P L ⟨some d, op, ty, pos, af, some (j, b)⟩ w v) : Know P ops L w i :=
  ⟨_, d, v, ho, rfl, hl, hs, t, _, hj, ht, fun _ => hp, fun h => absurd (by rw [hb]) h⟩
theorem knwOff {L : List (Nat × Value)} {w : World} {i d j t : Nat} {b b' : Bool} {op : Op} {ty : TypeId} {pos : String} {af : Array Edge} (ho : ops[i]? = some ⟨some d, op, ty, pos, af, some (j, b)⟩) (hl : lk L d = some undef) (hs : noSel op = true)
    (hj : (ops[j]?).bind (·.dst) = some t) (ht : lk L t = some (.bool b')) (hb : b' ≠ b) : Know P ops L w i :=
  ⟨_, d, undef, ho, rfl, hl, hs, t, _, hj, ht, fun h => absurd (by injection h) hb, fun _ => rfl⟩
theorem pkP {todo pend : List Nat} {i d : Nat} {v : Value} (hd : dstOf ops i = some d) (hn : d < n) (hl : lk L d = none) (hok : okP ops pend i = true) (hk : Know P ops ((d, v) :: L) w i) (k : Pk P ops n Q todo (i :: pend) ((d, v) :: L) w) : Pk P ops n Q (i :: todo) pend L w := by
  intro hp
  refine .inl ⟨i, todo, d, v, List.mem_cons_self .., List.erase_cons_head .., hd, hn, hl, hok, hk, fun p hp' => (hp p hp').cons hl, k ?_⟩
  intro p hp'
  rcases List.mem_cons.1 hp' with rfl | hp'
  · exact hk
  · exact (hp p hp').cons hl
theorem pk1 {todo pend : List Nat} {i d : Nat} {op : Op} {ty : TypeId} {pos : String} {af : Array Edge} {v : Value} (ho : ops[i]? = some ⟨some d, op, ty, pos, af, none⟩) (hn : d < n) (hl : lk L d = none) (hok : okP ops pend i = true) (hs : noSel op = true)
    (hp : Pu P L ⟨some d, op, ty, pos, af, none⟩ w v) (k : Pk P ops n Q todo (i :: pend) ((d, v) :: L) w) : Pk P ops n Q (i :: todo) pend L w :=
  pkP (by simp [dstOf, ho]) hn hl hok (knw ho (lk_head _ _ _) hs (hp.mono (lk_cons_mono hl))) k
theorem pkOn {todo pend : List Nat} {i d j t : Nat} {b b' : Bool} {op : Op} {ty : TypeId} {pos : String} {af : Array Edge} {v : Value} (ho : ops[i]? = some ⟨some d, op, ty, pos, af, some (j, b)⟩) (hn : d < n) (hl : lk L d = none) (hok : okP ops pend i = true) (hs : noSel op = true)
    (hj : (ops[j]?).bind (·.dst) = some t) (ht : lk L t = some (.bool b')) (hb : b' = b) (hp : Pu P L ⟨some d, op, ty, pos, af, some (j, b)⟩ w v) (k : Pk P ops n Q todo (i :: pend) ((d, v) :: L) w) : Pk P ops n Q (i :: todo) pend L w :=
  pkP (by simp [dstOf, ho]) hn hl hok (knwOn ho (lk_head _ _ _) hs hj (lk_cons_mono hl _ _ ht) hb (hp.mono (lk_cons_mono hl))) k
theorem pkOff {todo pend : List Nat} {i d j t : Nat} {b b' : Bool} {op : Op} {ty : TypeId} {pos : String} {af : Array Edge} (ho : ops[i]? = some ⟨some d, op, ty, pos, af, some (j, b)⟩) (hn : d < n) (hl : lk L d = none) (hok : okP ops pend i = true) (hs : noSel op = true)
    (hj : (ops[j]?).bind (·.dst) = some t) (ht : lk L t = some (.bool b')) (hb : b' ≠ b) (k : Pk P ops n Q todo (i :: pend) ((d, undef) :: L) w) : Pk P ops n Q (i :: todo) pend L w :=
  pkP (by simp [dstOf, ho]) hn hl hok (knwOff ho (lk_head _ _ _) hs hj (lk_cons_mono hl _ _ ht) hb) k
theorem knwOffU {L : List (Nat × Value)} {w : World} {i d j t : Nat} {b : Bool} {op : Op} {ty : TypeId} {pos : String} {af : Array Edge} (ho : ops[i]? = some ⟨some d, op, ty, pos, af, some (j, b)⟩) (hl : lk L d = some undef) (hs : noSel op = true)
    (hj : (ops[j]?).bind (·.dst) = some t) (ht : lk L t = some undef) : Know P ops L w i :=
  ⟨_, d, undef, ho, rfl, hl, hs, t, _, hj, ht, fun h => absurd h (by simp [undef]), fun _ => rfl⟩
theorem pkOffU {todo pend : List Nat} {i d j t : Nat} {b : Bool} {op : Op} {ty : TypeId} {pos : String} {af : Array Edge} (ho : ops[i]? = some ⟨some d, op, ty, pos, af, some (j, b)⟩) (hn : d < n) (hl : lk L d = none) (hok : okP ops pend i = true) (hs : noSel op = true)
    (hj : (ops[j]?).bind (·.dst) = some t) (ht : lk L t = some undef) (k : Pk P ops n Q todo (i :: pend) ((d, undef) :: L) w) : Pk P ops n Q (i :: todo) pend L w :=
  pkP (by simp [dstOf, ho]) hn hl hok (knwOffU ho (lk_head _ _ _) hs hj (lk_cons_mono hl _ _ ht)) k
/-- What is to do, in another order. -/
theorem pkPerm {todo pend : List Nat} (todo' : List Nat) (h : todo'.isPerm todo = true) (k : Pk P ops n Q todo' pend L w) : Pk P ops n Q todo pend L w := by
  intro hp
  have hperm : todo'.Perm todo := List.isPerm_iff.1 h
  rw [← hperm.length_eq]
  exact Plan.perm hperm (k hp)
/-- One of the effects that may come next, in the form in which it is printed. -/
def Alt (P : Program) (ops : Array Oper) (n : Nat) (Q : Exit → Act → World → Prop) (todo pend : List Nat) (L : List (Nat × Value)) (w : World) (i : Nat) : Prop :=
  i ∈ todo ∧ EffStep P ops n (fun pend2 L' w' => Plan P ops n Q (todo.length - 1) (todo.erase i) pend2 L' w') pend L w i
def Alts (P : Program) (ops : Array Oper) (n : Nat) (Q : Exit → Act → World → Prop) (todo pend : List Nat) (L : List (Nat × Value)) (w : World) : List Nat → Prop
  | [] => True
  | i :: r => Alt P ops n Q todo pend L w i ∧ Alts P ops n Q todo pend L w r
theorem pkAlt {todo pend : List Nat} (cands : List Nat) (hB : okB ops cands todo = true) (hne : todo.isEmpty = false) (h : Alts P ops n Q todo pend L w cands) : Pk P ops n Q todo pend L w := by
  intro _
  have hne' : todo ≠ [] := fun e => by subst e; cases hne
  have hall : ∀ i ∈ cands, Alt P ops n Q todo pend L w i := by
    clear hB
    induction cands with
    | nil => intro i hi; cases hi
    | cons c r ih =>
      intro i hi
      rcases List.mem_cons.1 hi with rfl | hi
      · exact h.1
      · exact ih h.2 i hi
  obtain ⟨x, r, rfl⟩ := List.exists_cons_of_ne_nil hne'
  exact .inr ⟨hne', cands, hB, hall⟩
section
variable {todo pend : List Nat} {i d j t : Nat} {b b' : Bool} {op : Op} {ty : TypeId} {pos : String} {af : Array Edge} {R : Value → World → Prop}
theorem plan_len {todo' pend2 : List Nat} {L' : List (Nat × Value)} {w' : World} (hm : i ∈ todo) (hr : todo.erase i = todo') (h : Plan P ops n Q todo'.length todo' pend2 L' w') : Plan P ops n Q (todo.length - 1) (todo.erase i) pend2 L' w' := by
  rw [← List.length_erase_of_mem hm, hr]; exact h
theorem altE (pend2 todo' : List Nat) (hc : todo.contains i = true) (hr : todo.erase i = todo') (ho : ops[i]? = some ⟨some d, op, ty, pos, af, none⟩) (hn : d < n) (hE : okE ops pend pend2 i = true)
    (hef : Ef P L ⟨some d, op, ty, pos, af, none⟩ w R) (k : ∀ v w', R v w' → KAll P ops ((d, v) :: L) w' pend2 ∧ Pk P ops n Q todo' pend2 ((d, v) :: L) w') : Alt P ops n Q todo pend L w i :=
  have hm : i ∈ todo := by simpa using hc
  ⟨hm, .inl ⟨pend2, d, op, ty, pos, af, none, R, ho, trivial, hn, hE, hef, fun v w' hR => let ⟨k1, k2⟩ := k v w' hR; ⟨kall k1, plan_len hm hr (k2 (kall k1))⟩⟩⟩
theorem altEOn (pend2 todo' : List Nat) (hc : todo.contains i = true) (hr : todo.erase i = todo') (ho : ops[i]? = some ⟨some d, op, ty, pos, af, some (j, b)⟩) (hj : (ops[j]?).bind (·.dst) = some t) (ht : lk L t = some (.bool b')) (hb : b' = b) (hn : d < n) (hE : okE ops pend pend2 i = true)
    (hef : Ef P L ⟨some d, op, ty, pos, af, some (j, b)⟩ w R) (k : ∀ v w', R v w' → KAll P ops ((d, v) :: L) w' pend2 ∧ Pk P ops n Q todo' pend2 ((d, v) :: L) w') : Alt P ops n Q todo pend L w i :=
  have hm : i ∈ todo := by simpa using hc
  ⟨hm, .inl ⟨pend2, d, op, ty, pos, af, some (j, b), R, ho, ⟨t, hj, hb ▸ ht⟩, hn, hE, hef, fun v w' hR => let ⟨k1, k2⟩ := k v w' hR; ⟨kall k1, plan_len hm hr (k2 (kall k1))⟩⟩⟩
theorem altE0 (pend2 todo' : List Nat) (hc : todo.contains i = true) (hr : todo.erase i = todo') (ho : ops[i]? = some ⟨none, op, ty, pos, af, none⟩) (hE : okE ops pend pend2 i = true)
    (hef : Ef P L ⟨none, op, ty, pos, af, none⟩ w R) (k : ∀ v w', R v w' → KAll P ops L w' pend2 ∧ Pk P ops n Q todo' pend2 L w') : Alt P ops n Q todo pend L w i :=
  have hm : i ∈ todo := by simpa using hc
  ⟨hm, .inr ⟨pend2, op, ty, pos, af, none, R, ho, trivial, hE, hef, fun v w' hR => let ⟨k1, k2⟩ := k v w' hR; ⟨kall k1, plan_len hm hr (k2 (kall k1))⟩⟩⟩
theorem altE0On (pend2 todo' : List Nat) (hc : todo.contains i = true) (hr : todo.erase i = todo') (ho : ops[i]? = some ⟨none, op, ty, pos, af, some (j, b)⟩) (hj : (ops[j]?).bind (·.dst) = some t) (ht : lk L t = some (.bool b')) (hb : b' = b) (hE : okE ops pend pend2 i = true)
    (hef : Ef P L ⟨none, op, ty, pos, af, some (j, b)⟩ w R) (k : ∀ v w', R v w' → KAll P ops L w' pend2 ∧ Pk P ops n Q todo' pend2 L w') : Alt P ops n Q todo pend L w i :=
  have hm : i ∈ todo := by simpa using hc
  ⟨hm, .inr ⟨pend2, op, ty, pos, af, some (j, b), R, ho, ⟨t, hj, hb ▸ ht⟩, hE, hef, fun v w' hR => let ⟨k1, k2⟩ := k v w' hR; ⟨kall k1, plan_len hm hr (k2 (kall k1))⟩⟩⟩
theorem pkE (pend2 : List Nat) (ho : ops[i]? = some ⟨some d, op, ty, pos, af, none⟩) (hn : d < n) (hE : okE ops pend pend2 i = true) (hC : okB ops [i] (i :: todo) = true)
    (hef : Ef P L ⟨some d, op, ty, pos, af, none⟩ w R) (k : ∀ v w', R v w' → KAll P ops ((d, v) :: L) w' pend2 ∧ Pk P ops n Q todo pend2 ((d, v) :: L) w') : Pk P ops n Q (i :: todo) pend L w :=
  pkAlt [i] hC rfl ⟨altE pend2 todo (by simp) (by simp) ho hn hE hef k, trivial⟩
theorem pkEOn (pend2 : List Nat) (ho : ops[i]? = some ⟨some d, op, ty, pos, af, some (j, b)⟩) (hj : (ops[j]?).bind (·.dst) = some t) (ht : lk L t = some (.bool b')) (hb : b' = b) (hn : d < n) (hE : okE ops pend pend2 i = true) (hC : okB ops [i] (i :: todo) = true)
    (hef : Ef P L ⟨some d, op, ty, pos, af, some (j, b)⟩ w R) (k : ∀ v w', R v w' → KAll P ops ((d, v) :: L) w' pend2 ∧ Pk P ops n Q todo pend2 ((d, v) :: L) w') : Pk P ops n Q (i :: todo) pend L w :=
  pkAlt [i] hC rfl ⟨altEOn pend2 todo (by simp) (by simp) ho hj ht hb hn hE hef k, trivial⟩
theorem pkE0 (pend2 : List Nat) (ho : ops[i]? = some ⟨none, op, ty, pos, af, none⟩) (hE : okE ops pend pend2 i = true) (hC : okB ops [i] (i :: todo) = true)
    (hef : Ef P L ⟨none, op, ty, pos, af, none⟩ w R) (k : ∀ v w', R v w' → KAll P ops L w' pend2 ∧ Pk P ops n Q todo pend2 L w') : Pk P ops n Q (i :: todo) pend L w :=
  pkAlt [i] hC rfl ⟨altE0 pend2 todo (by simp) (by simp) ho hE hef k, trivial⟩
theorem pkE0On (pend2 : List Nat) (ho : ops[i]? = some ⟨none, op, ty, pos, af, some (j, b)⟩) (hj : (ops[j]?).bind (·.dst) = some t) (ht : lk L t = some (.bool b')) (hb : b' = b) (hE : okE ops pend pend2 i = true) (hC : okB ops [i] (i :: todo) = true)
    (hef : Ef P L ⟨none, op, ty, pos, af, some (j, b)⟩ w R) (k : ∀ v w', R v w' → KAll P ops L w' pend2 ∧ Pk P ops n Q todo pend2 L w') : Pk P ops n Q (i :: todo) pend L w :=
  pkAlt [i] hC rfl ⟨altE0On pend2 todo (by simp) (by simp) ho hj ht hb hE hef k, trivial⟩
end
/-- A pure step that writes a slot anew (an assignment): like an effect. -/
theorem puEf {o : Oper} {v : Value} (h : Pu P L o w v) : Ef P L o w fun v' w' => v' = v ∧ w = w' := fun ρ hρ => (h.does hρ).mono fun _ _ h => ⟨h.1, h.2.symm⟩
theorem pkF {pend : List Nat} (k : ∀ a, Fr n a L → Q .normal a w) : Pk P ops n Q [] pend L w := fun _ => ⟨rfl, k⟩
theorem drw {id : Nat} {l : List Oper} (todo : List Nat) {L0 : List (Nat × Value)} (hm : P.follows .mixedOrders = true) (hac : acyB l = true) (htd : ((List.range l.length).all (fun i => todo.contains i) && todo.all (fun i => decide (i < l.length)) && decide todo.Nodup) = true)
    (hF : Fr n a L0) (hp : Pk P l.toArray n Q todo [] L0 w.drew) : (Code.region id l.toArray true).wp P Q a w := wp_plan hm hac htd hF (hp (by simp))
end

def AllArgs (args : Array Value) : List (Nat × Value) → Prop
  | [] => True
  | (t, v) :: r => args[t]? = some v ∧ AllArgs args r
theorem enter_lk {args : Array Value} : ∀ {L : List (Nat × Value)}, AllArgs args L → ∀ t v, lk L t = some v → args[t]? = some v
  | [], _, t, v, h => by simp [lk] at h
  | (t0, v0) :: r, hA, t, v, h => by
    simp only [lk] at h
    cases e : Nat.beq t0 t with
    | true =>
      have e' := Nat.eq_of_beq_eq_true e
      subst e'
      simp at h
      subst h
      exact hA.1
    | false => rw [e] at h; exact enter_lk hA.2 t v h

theorem one_nil : ∀ v ∈ ([] : List Value), v.oneCell' = true := by simp
theorem one_cons {u : Value} {l : List Value} (h : u.oneCell' = true) (k : ∀ v ∈ l, v.oneCell' = true) : ∀ v ∈ u :: l, v.oneCell' = true := by
  intro v hv; rcases List.mem_cons.1 hv with rfl | hv
  · exact h
  · exact k v hv
theorem one_sl {α : Type} {kd : Kd α} {σ : HF} {v : Value} {xs : List α} (h : Sl kd σ v xs) : v.oneCell' = true := by obtain ⟨A, cap, rfl, _⟩ := h; rfl
theorem St.one_ow {α : Type} {kd : Kd α} {et : TypeId} {v : Value} {xs : List α} {e : En} {σ : HF} {w : World} {A B : List Asn} {i : Nat} (hS : St e σ w A) (hp : Kw.pull i A = some (Ow kd et v xs, B)) : v.oneCell' = true := by
  obtain ⟨ad, cap, rfl, _⟩ := (hS.pull hp).ow_val; rfl
theorem cells_one {v : Value} (h : v.oneCell' = true) : v.cells.toList = [v] := by
  cases v <;> first | rfl | simp [Value.oneCell'] at h

theorem flat_int {k : IntKind} : (Kd.int k).Flat := fun h => h
theorem flat_bool : Kd.bool.Flat := fun h => h
theorem flat_str : Kd.str.Flat := fun h => h
theorem flat_pair {α β : Type} {a : Kd α} {b : Kd β} (ha : a.Flat) (hb : b.Flat) : (Kd.pair a b).Flat := fun ⟨c1, c2, h, h1, h2⟩ => ⟨c1, c2, h, ha h1, hb h2⟩
theorem flat_unit : Kd.unit.Flat := fun h => h
theorem flat_iso {α β : Type} {a : Kd α} {f : β → α} (ha : a.Flat) : (Kd.iso a f).Flat := fun h => ha h

theorem Sl.el {α : Type} {kd : Kd α} {σ : HF} {v : Value} {xs : List α} (h : Sl kd σ v xs) : ∃ A n c, v = .slice A n c := by obtain ⟨A, cap, rfl, _⟩ := h; exact ⟨_, _, _, rfl⟩
theorem St.el {α : Type} {kd : Kd α} {et : TypeId} {v : Value} {xs : List α} {e : En} {σ : HF} {w : World} {A B : List Asn} {i : Nat} (hS : St e σ w A) (hp : Kw.pull i A = some (Ow kd et v xs, B)) : ∃ A n c, v = .slice A n c := by
  obtain ⟨ad, cap, rfl, _⟩ := (hS.pull hp).ow_val; exact ⟨_, _, _, rfl⟩
theorem arr_nil {α : Type} {kd : Kd α} {σ : HF} : (Kd.arr 0 kd).K σ [] [] := ⟨rfl, by simp, by simp, Rows.nil _ _ _ _⟩
theorem arr_cons {α : Type} {kd : Kd α} {σ : HF} {n : Nat} {x : α} {xs : List α} {c cs : List Value} (h : kd.K σ x c) (hs : (Kd.arr n kd).K σ xs cs) : (Kd.arr (n + 1) kd).K σ (x :: xs) (c ++ cs) :=
  ⟨by simp [hs.1], by simp [kd.len h, hs.2.1, Nat.succ_mul, Nat.add_comm], fun v hv => (List.mem_append.1 hv).elim (kd.one h v) (hs.2.2.1 v), rows_cons h hs.2.2.2⟩
end Go.Kw
