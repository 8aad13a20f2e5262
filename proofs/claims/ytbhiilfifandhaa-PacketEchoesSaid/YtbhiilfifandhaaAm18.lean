/- Regions whose order is drawn: what any order makes is told by what the text's order notes. -/
import Derived.Test.YtbhiilfifandhaaAm17
set_option linter.unusedVariables false
set_option linter.unusedSimpArgs false
set_option linter.unusedSectionVars false
namespace Go.Am

/-! ### Checks -/
theorem meets_false {l m : List Nat} (h : meets l m = false) : ∀ i, i ∈ l → i ∉ m := by
  induction l with
  | nil => simp
  | cons a r ih =>
    simp only [meets, Bool.or_eq_false_iff] at h
    intro i hi hm
    rcases List.mem_cons.1 hi with rfl | hi
    · have := (mem_iff i m).2 hm
      rw [this] at h
      exact absurd h.1 (by simp)
    · exact ih h.2 i hi hm
theorem inRange_false {lo hi : Nat} {l : List Nat} (h : inRange lo hi l = false) : ∀ i, i ∈ l → ¬ (lo ≤ i ∧ i < hi) := by
  induction l with
  | nil => simp
  | cons a r ih =>
    simp only [inRange, Bool.or_eq_false_iff] at h
    intro i hi' hm
    rcases List.mem_cons.1 hi' with rfl | hi'
    · have := h.1
      rw [Bool.and_eq_false_iff] at this
      rcases this with h1 | h1
      · have := (ble_iff lo i).2 hm.1
        rw [this] at h1; cases h1
      · have := (blt_iff i hi).2 hm.2
        rw [this] at h1; cases h1
    · exact ih h.2 i hi' hm
theorem memO_false {d : Option Tmp} {l : List Nat} (h : memO d l = false) : ∀ t, d = some t → t ∉ l := by
  intro t ht hm
  subst ht
  have := (mem_iff t l).2 hm
  simp only [memO] at h
  rw [this] at h
  cases h
theorem allIn_true {l m : List Nat} (h : allIn l m = true) : ∀ i, i ∈ l → i ∈ m := by
  induction l with
  | nil => simp
  | cons a r ih =>
    simp only [allIn, Bool.and_eq_true] at h
    intro i hi
    rcases List.mem_cons.1 hi with rfl | hi
    · exact (mem_iff _ _).1 h.1
    · exact ih h.2 i hi
theorem allGe_true {n : Nat} {l : List Nat} (h : allGe n l = true) : ∀ i, i ∈ l → n ≤ i := by
  induction l with
  | nil => simp
  | cons a r ih =>
    simp only [allGe, Bool.and_eq_true] at h
    intro i hi
    rcases List.mem_cons.1 hi with rfl | hi
    · exact (ble_iff _ _).1 h.1
    · exact ih h.2 i hi
theorem afterOk_true {j : Nat} {l : List Edge} (h : afterOk j l = true) : ∀ e, e ∈ l → Region.binds .any e = true → e.on < j := by
  induction l with
  | nil => simp
  | cons a r ih =>
    simp only [afterOk, Bool.and_eq_true, Bool.or_eq_true, Bool.not_eq_true'] at h
    intro e he hb
    rcases List.mem_cons.1 he with rfl | he
    · rcases h.1 with h1 | h1
      · rw [hb] at h1; cases h1
      · exact (blt_iff _ _).1 h1
    · exact ih h.2 e he hb
/-- Either order of two operations. -/
structure Ap (x r : Rec) : Prop where
  rd : ∀ i, i ∈ x.touch → i ∉ r.wr
  nw : ∀ i, i ∈ x.touch → ¬ (r.lo ≤ i ∧ i < r.hi)
  wt : ∀ i, i ∈ x.wr → i ∉ r.touch
  d1 : ∀ t, r.dst = some t → t ∉ x.names
  d2 : ∀ t, x.dst = some t → t ∉ r.names
theorem apart1_true {x r : Rec} (h : apart1 x r = true) : Ap x r := by
  simp only [apart1, Bool.and_eq_true, Bool.not_eq_true'] at h
  exact ⟨meets_false h.1.1.1.1, inRange_false h.1.1.1.2, meets_false h.1.1.2, memO_false h.1.2, memO_false h.2⟩

/-! ### What a set of operations leaves -/
def Fold {α : Type} (up : Rec → α → Option α) (S : Nat → Bool) : List Rec → α → α
  | [], a => a
  | r :: rs, a => Fold up S rs (if S r.ix = true then (up r a).getD a else a)
section
variable {α : Type} {up : Rec → α → Option α} {S S' : Nat → Bool}
theorem Fold_append (xs ys : List Rec) (a : α) : Fold up S (xs ++ ys) a = Fold up S ys (Fold up S xs a) := by
  induction xs generalizing a with
  | nil => rfl
  | cons r rs ih => simp only [List.cons_append, Fold, ih]
theorem Fold_congr (recs : List Rec) (h : ∀ r, r ∈ recs → (∀ a, up r a = none) ∨ S r.ix = S' r.ix) (a : α) : Fold up S recs a = Fold up S' recs a := by
  induction recs generalizing a with
  | nil => rfl
  | cons r rs ih =>
    simp only [Fold]
    rw [ih (fun x hx => h x (List.mem_cons_of_mem _ hx))]
    rcases h r (List.mem_cons_self ..) with h1 | h1
    · rw [h1 a]; simp
    · rw [h1]
theorem Fold_skip (recs : List Rec) (h : ∀ r, r ∈ recs → (∀ a, up r a = none) ∨ S r.ix = false) (a : α) : Fold up S recs a = a := by
  induction recs generalizing a with
  | nil => rfl
  | cons r rs ih =>
    simp only [Fold]
    rw [ih (fun x hx => h x (List.mem_cons_of_mem _ hx))]
    rcases h r (List.mem_cons_self ..) with h1 | h1
    · rw [h1 a]; simp
    · rw [h1]; simp
end
/-- Does an operation write a block? -/
def Wr (r : Rec) (i : Nat) : Prop := (r.lo ≤ i ∧ i < r.hi) ∨ i ∈ r.wr
instance (r : Rec) (i : Nat) : Decidable (Wr r i) := inferInstanceAs (Decidable (_ ∨ _))
def upH (i : Nat) (r : Rec) (_ : Option ((Bool × Blk) × Nat)) : Option (Option ((Bool × Blk) × Nat)) := if Wr r i then some ((find r.heap i).map (·, r.hi)) else none
def upT (t : Nat) (r : Rec) (a : Option (Value × Nat)) : Option (Option (Value × Nat)) := if r.dst = some t then some (a.map fun _ => (r.v, r.hi)) else none
theorem upT_some (t : Nat) (S : Nat → Bool) (recs : List Rec) (a : Option (Value × Nat)) : (Fold (upT t) S recs a).isSome = a.isSome := by
  induction recs generalizing a with
  | nil => rfl
  | cons r rs ih =>
    simp only [Fold, ih]
    split
    · unfold upT
      split
      · cases a <;> rfl
      · rfl
    · rfl
def allS : Nat → Bool := fun _ => true
def tmpsAt (recs : List Rec) (tmps : List Value) : List Value := recs.foldl (fun t r => put t r.dst r.v) tmps
def stAt (recs : List Rec) (st : St) : St := recs.foldl (fun s r => stRec r s) st
theorem get_put (tmps : List Value) (d : Option Tmp) (v : Value) (t : Nat) : get (put tmps d v) t = if d = some t then (get tmps t).map fun _ => v else get tmps t := by
  cases d with
  | none => simp [put]
  | some d =>
    simp only [put, get_eq, Option.some.injEq]
    rw [List.getElem?_set]
    by_cases h : d = t
    · subst h
      simp only [if_true]
      by_cases hl : d < tmps.length
      · simp [hl]
      · simp [hl]
    · simp [h]
theorem tmpsAt_get (t n : Nat) (recs : List Rec) : ∀ (tmps : List Value) (a : Option (Value × Nat)), get tmps t = a.map (·.1) → get (tmpsAt recs tmps) t = (Fold (upT t) allS recs a).map (·.1) := by
  induction recs with
  | nil => intro tmps a h; exact h
  | cons r rs ih =>
    intro tmps a h
    simp only [Fold, allS, if_true]
    refine ih (put tmps r.dst r.v) _ ?_
    rw [get_put]
    unfold upT
    split
    · rw [h]; cases a <;> rfl
    · simpa using h
theorem find_append (g h : Heap) (i : Nat) : find (g ++ h) i = (find g i).or (find h i) := by
  induction g with
  | nil => simp [find]
  | cons x r ih =>
    obtain ⟨j, e⟩ := x
    rw [List.cons_append, find_cons, find_cons, ih]
    split <;> simp
theorem find_over (w : List Nat) (g h : Heap) (i : Nat) {e : Bool × Blk} (hf : find (over w g h) i = some e) : (i ∈ w ∧ find g i = some e) ∨ (i ∉ w ∧ find h i = some e) := by
  induction h with
  | nil => simp [over, find] at hf
  | cons x r ih =>
    obtain ⟨j, e0⟩ := x
    unfold over at hf
    rw [find_cons]
    by_cases hj : j = i
    · subst hj
      by_cases hm : mem j w = true
      · rw [if_pos hm] at hf
        have hm' := (mem_iff j w).1 hm
        split at hf
        · rename_i e1 hg
          rw [find_cons, if_pos rfl] at hf
          cases hf
          exact .inl ⟨hm', hg⟩
        · rcases ih hf with h1 | h1
          · exact .inl h1
          · exact absurd hm' h1.1
      · rw [if_neg hm, find_cons, if_pos rfl] at hf
        exact .inr ⟨fun h => hm ((mem_iff j w).2 h), by rw [if_pos rfl]; exact hf⟩
    · rw [if_neg hj]
      split at hf
      · split at hf
        · rw [find_cons, if_neg hj] at hf; exact ih hf
        · exact ih hf
      · rw [find_cons, if_neg hj] at hf; exact ih hf
theorem find_newOnes (lo hi : Nat) (g : Heap) (i : Nat) : find (newOnes lo hi g) i = if lo ≤ i ∧ i < hi then find g i else none := by
  unfold newOnes
  rw [find_filt]
  by_cases h : lo ≤ i ∧ i < hi
  · rw [if_pos h, if_pos]
    rw [(ble_iff _ _).2 h.1, (blt_iff _ _).2 h.2]; rfl
  · rw [if_neg h, if_neg]
    intro h'
    rw [Bool.and_eq_true] at h'
    exact h ⟨(ble_iff _ _).1 h'.1, (blt_iff _ _).1 h'.2⟩
/-- Blocks that a merged heap has. -/
theorem find_merge {r : Rec} {h : Heap} (hlt : ∀ i e, find h i = some e → i < r.lo) {i : Nat} {e : Bool × Blk} (hf : find (mergeR r h) i = some e) : (Wr r i ∧ find r.heap i = some e) ∨ (¬ Wr r i ∧ find h i = some e) := by
  unfold mergeR at hf
  rw [find_append, find_newOnes] at hf
  by_cases hr : r.lo ≤ i ∧ i < r.hi
  · rw [if_pos hr] at hf
    cases hg : find r.heap i with
    | some e1 => rw [hg] at hf; simp at hf; subst hf; exact .inl ⟨.inl hr, rfl⟩
    | none =>
      rw [hg] at hf
      simp only [Option.none_or] at hf
      rcases find_over _ _ _ _ hf with h1 | h1
      · rw [hg] at h1; exact absurd h1.2 (by simp)
      · exact absurd (hlt _ _ h1.2) (by omega)
  · rw [if_neg hr] at hf
    simp only [Option.none_or] at hf
    rcases find_over _ _ _ _ hf with h1 | h1
    · exact .inl ⟨.inr h1.1, h1.2⟩
    · exact .inr ⟨fun hw => hw.elim (fun h => hr h) (fun h => h1.1 h), h1.2⟩
/-- The text's order, in terms of the notes. -/
theorem stAt_find (i : Nat) (recs : List Rec) : ∀ (st : St) (a : Option ((Bool × Blk) × Nat)), (∀ k e, find st.heap k = some e → k < st.next) → recs.Pairwise (fun r x => r.hi ≤ x.lo) → (∀ r, r ∈ recs → st.next ≤ r.lo ∧ r.lo ≤ r.hi ∧ ∀ k, k ∈ r.wr → k < r.lo) →
    (∀ e, find st.heap i = some e → ∃ n, a = some (e, n)) →
    (∀ e, find (stAt recs st).heap i = some e → ∃ n, Fold (upH i) allS recs a = some (e, n)) ∧ (∀ k e, find (stAt recs st).heap k = some e → k < (stAt recs st).next) := by
  induction recs with
  | nil => intro st a h1 _ _ h2; exact ⟨h2, h1⟩
  | cons r rs ih =>
    intro st a h1 hp hlo h2
    have hr := hlo r (List.mem_cons_self ..)
    have hlt : ∀ k e, find st.heap k = some e → k < r.lo := fun k e h => Nat.lt_of_lt_of_le (h1 k e h) hr.1
    rw [List.pairwise_cons] at hp
    simp only [Fold, allS, if_true]
    refine ih (stRec r st) _ ?_ hp.2 (fun x hx => ⟨hp.1 x hx, (hlo x (List.mem_cons_of_mem _ hx)).2⟩) ?_
    · intro k e h
      show k < r.hi
      rcases find_merge hlt h with ⟨hw, hg⟩ | ⟨hw, hg⟩
      · rcases hw with hw | hw
        · exact hw.2
        · have := hr.2.2 k hw; omega
      · have := hlt k e hg; omega
    · intro e h
      rcases find_merge hlt h with ⟨hw, hg⟩ | ⟨hw, hg⟩
      · unfold upH; rw [if_pos hw, hg]; exact ⟨_, rfl⟩
      · unfold upH; rw [if_neg hw]; exact h2 e hg

/-! ### What holds behind a set of operations -/
def Inj.upto (ρ : Inj) (n : Nat) : Inj := fun i => if i < n then ρ i else none
theorem Inj.upto_le (ρ : Inj) (n : Nat) : (ρ.upto n).le ρ := fun i m h => by
  unfold Inj.upto at h
  split at h
  · exact h
  · cases h
theorem Inj.upto_mono {ρ ρ' : Inj} {n n' : Nat} (h : ρ.le ρ') (hn : n ≤ n') : (ρ.upto n).le (ρ'.upto n') := fun i m hm => by
  unfold Inj.upto at *
  split at hm
  · rw [if_pos (by omega)]; exact h i m hm
  · cases hm
theorem Inj.upto_fresh (ρ : Inj) (n : Nat) : Fresh (ρ.upto n) n := fun i hi => by
  unfold Inj.upto
  rw [if_neg (by omega)]
theorem Inj.upto_of {ρ : Inj} {n i : Nat} {m : Img} (h : ρ i = some m) (hi : i < n) : ρ.upto n i = some m := by
  unfold Inj.upto
  rw [if_pos hi]; exact h
theorem Inj.upto_eq {ρ : Inj} {n i : Nat} {m : Img} (h : ρ.upto n i = some m) : ρ i = some m ∧ i < n := by
  unfold Inj.upto at h
  split at h
  · exact ⟨h, by assumption⟩
  · cases h

section
variable (E : Env) (pm : Nat → Nat) (recs : List Rec) (tmps0 : List Value) (st0 : St) (ρ0 : Inj) (w0 : World)

def TS (S : Nat → Bool) (t : Nat) : Option (Value × Nat) := Fold (upT t) S recs ((get tmps0 t).map (·, st0.next))
def HS (S : Nat → Bool) (i : Nat) : Option ((Bool × Blk) × Nat) := Fold (upH i) S recs ((find st0.heap i).map (·, st0.next))
def LS (S : Nat → Bool) (i : Nat) : Prop := i ∈ st0.log ∨ ∃ r, r ∈ recs ∧ S r.ix = true ∧ i ∈ r.wr

/-- What the notes are. -/
structure Notes : Prop where
  pw : recs.Pairwise fun r x => r.ix < x.ix ∧ r.hi ≤ x.lo ∧ ((pm x.ix).testBit r.ix = true ∨ Ap x r)
  lo : ∀ r, r ∈ recs → st0.next ≤ r.lo ∧ r.lo ≤ r.hi ∧ ∀ k, k ∈ r.wr → k < r.lo
  wr : ∀ r, r ∈ recs → ∀ i, i ∈ r.wr → i ∈ r.touch ∧ E.ng ≤ i
  dst : ∀ r, r ∈ recs → ∀ t, r.dst = some t → t ∈ r.names
/-- What holds of the state behind the operations of a set. -/
structure DInv (S : Nat → Bool) (ρ : Inj) (a : Act) (w : World) : Prop where
  tm : ∀ t, (TS recs tmps0 st0 S t = none → a.tmps[t]? = none) ∧ ∀ v n, TS recs tmps0 st0 S t = some (v, n) → ∃ v', a.tmps[t]? = some v' ∧ VRel (ρ.upto n) v v'
  hp : ∀ i o b n, HS recs st0 S i = some ((o, b), n) → BRel E (ρ.upto n) w i o b
  inj : ∀ i k b e mi mk n n', HS recs st0 S i = some ((true, b), n) → HS recs st0 S k = some (e, n') → i ≠ k → ρ i = some mi → ρ k = some mk → mk.blk ≠ mi.blk
  new : ∀ i m, ρ i = some m → ρ0 i = none → ∃ r, r ∈ recs ∧ S r.ix = true ∧ r.lo ≤ i ∧ i < r.hi
  le : ρ0.le ρ
  acq : ∀ i m, ρ i = some m → ρ0 i = none → w0.heap.size ≤ m.blk ∨ ∃ j mj, LS recs st0 S j ∧ ρ0 j = some mj ∧ mj.blk = m.blk
  frame : ∀ r, r < w0.heap.size → (∀ j mj, LS recs st0 S j → ρ0 j = some mj → mj.blk ≠ r) → w.heap[r]? = w0.heap[r]?
  size : w0.heap.size ≤ w.heap.size
  own : ∀ i, LS recs st0 S i → i ∉ st0.log → (ρ0 i).isSome → ∃ b, find st0.heap i = some (true, b)
  own' : ∀ i b n, (ρ0 i).isSome → HS recs st0 S i = some ((true, b), n) → ∃ b', find st0.heap i = some (true, b')
  os : w.os = w0.os
  tape : w.tape = w0.tape
  output : w.output = w0.output
  defers : a.defers = []
end

def addS (S : Nat → Bool) (j : Nat) : Nat → Bool := fun k => k == j || S k
theorem addS_self (S : Nat → Bool) (j : Nat) : addS S j j = true := by simp [addS]
theorem addS_of {S : Nat → Bool} {j k : Nat} (h : S k = true) : addS S j k = true := by simp [addS, h]
theorem addS_ne {S : Nat → Bool} {j k : Nat} (h : k ≠ j) : addS S j k = S k := by simp [addS, h]

section
variable {E : Env} {pm : Nat → Nat} {recs : List Rec} {tmps0 : List Value} {st0 : St} {ρ0 : Inj} {w0 : World}
/-- The notes before and behind one. -/
theorem Notes.split (N : Notes E pm recs st0) {pre post : List Rec} {r : Rec} (hr : recs = pre ++ r :: post) :
    (∀ p, p ∈ pre → p.ix < r.ix ∧ p.hi ≤ r.lo ∧ ((pm r.ix).testBit p.ix = true ∨ Ap r p)) ∧ (∀ q, q ∈ post → r.ix < q.ix ∧ r.hi ≤ q.lo ∧ ((pm q.ix).testBit r.ix = true ∨ Ap q r)) := by
  have := N.pw
  rw [hr, List.pairwise_append, List.pairwise_cons] at this
  exact ⟨fun p hp => this.2.2 p hp r (List.mem_cons_self ..), fun q hq => this.2.1.1 q hq⟩
/-- What is added to a set, at a key that it writes. -/
theorem Fold_add {α : Type} {up : Rec → α → Option α} {S : Nat → Bool} {pre post : List Rec} {r : Rec} (hpre : ∀ p, p ∈ pre → p.ix ≠ r.ix) (hpost : ∀ q, q ∈ post → q.ix ≠ r.ix ∧ ((∀ a, up q a = none) ∨ S q.ix = false)) (a : α) :
    Fold up (addS S r.ix) (pre ++ r :: post) a = (up r (Fold up S pre a)).getD (Fold up S pre a) := by
  rw [Fold_append]
  simp only [Fold, addS_self, if_true]
  rw [Fold_congr (S' := S) pre (fun p hp => .inr (addS_ne (hpre p hp)))]
  exact Fold_skip post (fun q hq => by
    rw [addS_ne (hpost q hq).1]
    exact (hpost q hq).2) _
theorem Fold_add_not {α : Type} {up : Rec → α → Option α} {S : Nat → Bool} {recs : List Rec} {r : Rec} (h : ∀ x, x ∈ recs → x.ix = r.ix → ∀ a, up x a = none) (a : α) :
    Fold up (addS S r.ix) recs a = Fold up S recs a :=
  Fold_congr recs (fun x hx => by
    by_cases hi : x.ix = r.ix
    · exact .inl (h x hx hi)
    · exact .inr (addS_ne hi)) a

/-- One more operation. -/
theorem DInv.step (N : Notes E pm recs st0) (hF : Fresh ρ0 st0.next) {pre post : List Rec} {r : Rec} (hr : recs = pre ++ r :: post) {S : Nat → Bool} {ρ : Inj} {a : Act} {w : World}
    (D : DInv E recs tmps0 st0 ρ0 w0 S ρ a w) (hcl : ∀ q, q ∈ recs → S q.ix = true → ∀ b, (pm q.ix).testBit b = true → S b = true) (hj : S r.ix = false)
    {v' : Value} {w' : World} {ρ1 : Inj} {hh : Heap} {lg : List Nat} (hsub : ∀ c e, find hh c = some e → ∃ n, HS recs st0 S c = some (e, n))
    (hv : VRel ρ1 r.v v') (hH : HRel E ρ1 (find r.heap) w') (hX : Ext (ρ.upto r.lo) ρ1 ⟨hh, r.lo, []⟩ ⟨r.heap, r.hi, lg⟩ w w') (hlg : olds r.lo lg = r.wr) :
    ∃ ρ', DInv E recs tmps0 st0 ρ0 w0 (addS S r.ix) ρ' (a.put r.dst v') w' := by
  obtain ⟨hpre, hpost⟩ := N.split hr
  have hmem : r ∈ recs := by rw [hr]; simp
  obtain ⟨hlo1, hlo2, hlo3⟩ := N.lo r hmem
  have hsplit : ∀ x, x ∈ recs → x ∈ pre ∨ x = r ∨ x ∈ post := fun x hx => by rw [hr] at hx; simpa using hx
  have hix : ∀ x, x ∈ recs → x.ix = r.ix → x = r := fun x hx h => by
    rcases hsplit x hx with h1 | h1 | h1
    · have := (hpre x h1).1; omega
    · exact h1
    · have := (hpost x h1).1; omega
  -- an operation that was done and is not ordered behind r
  have hapq : ∀ q, q ∈ post → S q.ix = true → Ap q r := fun q hq hs => by
    rcases (hpost q hq).2.2 with h | h
    · have := hcl q (by rw [hr]; simp [hq]) hs _ h
      rw [hj] at this; cases this
    · exact h
  -- no block of r's is there
  have F1 : ∀ i, r.lo ≤ i → i < r.hi → ρ i = none := fun i h1 h2 => by
    cases h3 : ρ i with
    | none => rfl
    | some m =>
      have h4 : ρ0 i = none := hF i (by omega)
      obtain ⟨x, hx, hs, h5, h6⟩ := D.new i m h3 h4
      rcases hsplit x hx with h7 | rfl | h7
      · have := (hpre x h7).2.1; omega
      · rw [hj] at hs; cases hs
      · have := (hpost x h7).2.1; omega
  have hle1 : ∀ i m, ρ1 i = some m → (r.lo ≤ i ∧ i < r.hi) ∨ (i < r.lo ∧ ρ i = some m) := fun i m h => by
    cases h1 : (ρ.upto r.lo) i with
    | none => exact .inl (hX.new i m h h1)
    | some m' =>
      have := hX.le i m' h1
      rw [h] at this
      cases this
      exact .inr ⟨(Inj.upto_eq h1).2, (Inj.upto_eq h1).1⟩
  let ρ' : Inj := fun i => if r.lo ≤ i ∧ i < r.hi then ρ1 i else ρ i
  have F2 : ρ.le ρ' := fun i m h => by
    show (if r.lo ≤ i ∧ i < r.hi then ρ1 i else ρ i) = some m
    split
    · rename_i hc; rw [F1 i hc.1 hc.2] at h; cases h
    · exact h
  have F3 : ρ1.le (ρ'.upto r.hi) := fun i m h => by
    rcases hle1 i m h with h1 | ⟨h1, h2⟩
    · exact Inj.upto_of (show (if r.lo ≤ i ∧ i < r.hi then ρ1 i else ρ i) = some m by rw [if_pos h1]; exact h) h1.2
    · exact Inj.upto_of (show (if r.lo ≤ i ∧ i < r.hi then ρ1 i else ρ i) = some m by rw [if_neg (by omega)]; exact h2) (by omega)
  have F4 : ∀ i m, ρ' i = some m → ρ i = none → (r.lo ≤ i ∧ i < r.hi) ∧ ρ1 i = some m := fun i m h h' => by
    have h1 : (if r.lo ≤ i ∧ i < r.hi then ρ1 i else ρ i) = some m := h
    split at h1
    · rename_i hc; exact ⟨hc, h1⟩
    · rw [h'] at h1; cases h1
  have hwlg : ∀ c, c ∈ lg → c < r.lo → c ∈ r.wr := fun c h1 h2 => by rw [← hlg]; exact (mem_olds _ _ _).2 ⟨h1, h2⟩
  have hlgw : ∀ c, c ∈ r.wr → c ∈ lg := fun c h1 => by rw [← hlg] at h1; exact ((mem_olds _ _ _).1 h1).1
  -- heaps
  have hHw : ∀ i, Wr r i → HS recs st0 (addS S r.ix) i = (find r.heap i).map (·, r.hi) := fun i hw => by
    unfold HS
    rw [hr, Fold_add (fun p hp => Nat.ne_of_lt (hpre p hp).1) (fun q hq => ⟨Nat.ne_of_gt (hpost q hq).1, ?_⟩)]
    · unfold upH; rw [if_pos hw]; rfl
    · by_cases hs : S q.ix = true
      · left
        intro _
        unfold upH
        rw [if_neg]
        have hap := hapq q hq hs
        have hqm : q ∈ recs := by rw [hr]; simp [hq]
        have hq2 := (hpost q hq).2.1
        rintro (hq1 | hq1)
        · rcases hw with hw | hw
          · omega
          · have := hlo3 i hw; omega
        · rcases hw with hw | hw
          · exact hap.nw i (N.wr q hqm i hq1).1 hw
          · exact hap.wt i hq1 (N.wr r hmem i hw).1
      · exact .inr (by simpa using hs)
  have hHn : ∀ i, ¬ Wr r i → HS recs st0 (addS S r.ix) i = HS recs st0 S i := fun i hw => Fold_add_not (fun x hx he a => by
    have := hix x hx he
    subst this
    unfold upH
    rw [if_neg hw]) _
  -- what was there and is not r's stays
  have hkeep : ∀ i o b n, HS recs st0 S i = some ((o, b), n) → ¬ Wr r i → ∀ m, ρ i = some m → m.blk < w.heap.size → w'.heap[m.blk]? = w.heap[m.blk]? := by
    intro i o b n hi hw m hm hlt
    refine hX.frame m.blk hlt fun c mc hc hmc => ?_
    obtain ⟨b', hb'⟩ := hX.own c hc (by simp) (by rw [hmc]; rfl)
    obtain ⟨n', hn'⟩ := hsub c _ hb'
    have hcw : c ∈ r.wr := hwlg c hc (Inj.upto_eq hmc).2
    have hne : c ≠ i := fun e => hw (.inr (e ▸ hcw))
    have := D.inj c i b' (o, b) mc m n' n hn' hi hne (Inj.upto_eq hmc).1 hm
    exact Ne.symm this
  have himg : ∀ i o b n, HS recs st0 S i = some ((o, b), n) → ∃ m, ρ i = some m ∧ i < n ∧ m.blk < w.heap.size := fun i o b n hi => by
    obtain ⟨m, h1, h2⟩ := (D.hp i o b n hi).img
    exact ⟨m, (Inj.upto_eq h1).1, (Inj.upto_eq h1).2, h2⟩
  -- where a block of r's lies
  have hplace : ∀ i e m, Wr r i → find r.heap i = some e → ρ' i = some m → w.heap.size ≤ m.blk ∨ ∃ c mc b n, c ∈ r.wr ∧ ρ c = some mc ∧ mc.blk = m.blk ∧ HS recs st0 S c = some ((true, b), n) := by
    intro i e m hw he hm
    obtain ⟨o, b⟩ := e
    obtain ⟨m1, h1, _⟩ := (hH.blk i o b he).img
    have h2 := (Inj.upto_eq (F3 i m1 h1)).1
    rw [hm] at h2
    cases h2
    have own1 : ∀ c mc, c ∈ lg → (ρ.upto r.lo) c = some mc → mc.blk = m.blk → ∃ c mc b n, c ∈ r.wr ∧ ρ c = some mc ∧ mc.blk = m.blk ∧ HS recs st0 S c = some ((true, b), n) := fun c mc hc hmc he => by
      obtain ⟨b', hb'⟩ := hX.own c hc (by simp) (by rw [hmc]; rfl)
      obtain ⟨n', hn'⟩ := hsub c _ hb'
      exact ⟨c, mc, b', n', hwlg c hc (Inj.upto_eq hmc).2, (Inj.upto_eq hmc).1, he, hn'⟩
    cases h3 : (ρ.upto r.lo) i with
    | none =>
      rcases hX.acq i m h1 h3 with h4 | ⟨c, mc, hc, hmc, he⟩
      · exact .inl h4
      · exact .inr (own1 c mc hc hmc he)
    | some m' =>
      have h4 := hX.le i m' h3
      rw [h1] at h4
      cases h4
      rcases hw with hw | hw
      · have := (Inj.upto_eq h3).2; omega
      · exact .inr (own1 i m (hlgw i hw) h3 rfl)
  refine ⟨ρ', ⟨fun t => ?_, fun i o b n h => ?_, fun i k b e mi mk n n' hi hk hik hmi hmk => ?_, fun i m h1 h2 => ?_, D.le.trans F2, fun i m h1 h2 => ?_, fun x hx hn => ?_, Nat.le_trans D.size hX.size, fun i h1 h2 h3 => ?_, fun i b n h1 h2 => ?_,
    hX.os.trans D.os, hX.tape.trans D.tape, hX.output.trans D.output, by rw [put_defers]; exact D.defers⟩⟩
  · -- temporaries
    by_cases ht : r.dst = some t
    · have hval : TS recs tmps0 st0 (addS S r.ix) t = (Fold (upT t) S pre ((get tmps0 t).map (·, st0.next))).map fun _ => (r.v, r.hi) := by
        unfold TS
        rw [hr, Fold_add (fun p hp => Nat.ne_of_lt (hpre p hp).1) (fun q hq => ⟨Nat.ne_of_gt (hpost q hq).1, ?_⟩)]
        · rw [show upT t r (Fold (upT t) S pre ((get tmps0 t).map (·, st0.next))) = some ((Fold (upT t) S pre ((get tmps0 t).map (·, st0.next))).map fun _ => (r.v, r.hi)) from by unfold upT; rw [if_pos ht]]
          rfl
        · by_cases hs : S q.ix = true
          · left
            intro _
            unfold upT
            rw [if_neg]
            intro hq1
            exact (hapq q hq hs).d2 t hq1 (N.dst r hmem t ht)
          · exact .inr (by simpa using hs)
      have hsome : (TS recs tmps0 st0 S t).isSome = ((get tmps0 t).map (·, st0.next)).isSome := upT_some t S recs _
      have hsome2 : (Fold (upT t) S pre ((get tmps0 t).map (·, st0.next))).isSome = ((get tmps0 t).map (·, st0.next)).isSome := upT_some t S pre _
      have hold := D.tm t
      rw [hval]
      simp only [Act.put, ht]
      cases h0 : TS recs tmps0 st0 S t with
      | none =>
        have hn := hold.1 h0
        rw [h0] at hsome
        rw [← hsome] at hsome2
        have h1 : Fold (upT t) S pre ((get tmps0 t).map (·, st0.next)) = none := by simpa using hsome2
        rw [h1]
        refine ⟨fun _ => ?_, by simp⟩
        rw [Array.getElem?_setIfInBounds]
        have hlen : ¬ t < a.tmps.size := by rw [Array.getElem?_eq_none_iff] at hn; omega
        simp [hlen]
      | some x =>
        obtain ⟨v, n⟩ := x
        obtain ⟨u, hu, _⟩ := hold.2 v n h0
        rw [h0] at hsome
        rw [← hsome] at hsome2
        obtain ⟨y, hy⟩ := Option.isSome_iff_exists.1 hsome2
        rw [hy]
        refine ⟨by simp, fun v1 n1 h1 => ?_⟩
        simp only [Option.map_some, Option.some.injEq, Prod.mk.injEq] at h1
        obtain ⟨rfl, rfl⟩ := h1
        have hlen : t < a.tmps.size := (Array.getElem?_eq_some_iff.1 hu).1
        exact ⟨v', by rw [Array.getElem?_setIfInBounds]; simp [hlen], hv.mono F3⟩
    · have hval : TS recs tmps0 st0 (addS S r.ix) t = TS recs tmps0 st0 S t := Fold_add_not (fun x hx he a => by
        have := hix x hx he
        subst this
        unfold upT
        rw [if_neg ht]) _
      rw [hval]
      have hget : (a.put r.dst v').tmps[t]? = a.tmps[t]? := by
        cases hd : r.dst with
        | none => rfl
        | some d =>
          simp only [Act.put]
          rw [Array.getElem?_setIfInBounds, if_neg]
          intro e; subst e; exact ht hd
      rw [hget]
      refine ⟨(D.tm t).1, fun v n h => ?_⟩
      obtain ⟨u, h1, h2⟩ := (D.tm t).2 v n h
      exact ⟨u, h1, h2.mono (Inj.upto_mono F2 (Nat.le_refl _))⟩
  · -- blocks
    by_cases hw : Wr r i
    · rw [hHw i hw] at h
      obtain ⟨e, h1, h2⟩ := Option.map_eq_some_iff.1 h
      cases h2
      exact (hH.blk i o b h1).keep F3 fun _ _ => rfl
    · rw [hHn i hw] at h
      obtain ⟨m, h1, h2, h3⟩ := himg i o b n h
      refine (D.hp i o b n h).keep (Inj.upto_mono F2 (Nat.le_refl _)) fun m' hm' => ?_
      have := (Inj.upto_eq hm').1
      rw [h1] at this
      cases this
      exact hkeep i o b n h hw m h1 h3
  · -- no two in one place
    by_cases hwi : Wr r i
    · rw [hHw i hwi] at hi
      obtain ⟨ei, hi1, hi2⟩ := Option.map_eq_some_iff.1 hi
      cases hi2
      by_cases hwk : Wr r k
      · rw [hHw k hwk] at hk
        obtain ⟨ek, hk1, hk2⟩ := Option.map_eq_some_iff.1 hk
        cases hk2
        obtain ⟨m1, g1, _⟩ := (hH.blk i true b hi1).img
        obtain ⟨o2, b2⟩ := e
        obtain ⟨m2, g2, _⟩ := (hH.blk k o2 b2 hk1).img
        have g3 := (Inj.upto_eq (F3 i m1 g1)).1
        have g4 := (Inj.upto_eq (F3 k m2 g2)).1
        rw [hmi] at g3
        rw [hmk] at g4
        cases g3
        cases g4
        exact hH.inj i k b _ mi mk hi1 hk1 hik g1 g2
      · rw [hHn k hwk] at hk
        obtain ⟨o2, b2⟩ := e
        obtain ⟨m2, g1, g2, g3⟩ := himg k o2 b2 n' hk
        have g4 := F2 k m2 g1
        rw [hmk] at g4
        cases g4
        rcases hplace i _ mi hwi hi1 hmi with g5 | ⟨c, mc, bc, nc, g5, g6, g7, g8⟩
        · omega
        · have hck : c ≠ k := fun e => hwk (.inr (e ▸ g5))
          have := D.inj c k bc (o2, b2) mc mk nc n' g8 hk hck g6 g1
          rw [← g7]; exact this
    · rw [hHn i hwi] at hi
      obtain ⟨m1, g1, g2, g3⟩ := himg i true b n hi
      have g4 := F2 i m1 g1
      rw [hmi] at g4
      cases g4
      by_cases hwk : Wr r k
      · rw [hHw k hwk] at hk
        obtain ⟨ek, hk1, hk2⟩ := Option.map_eq_some_iff.1 hk
        cases hk2
        rcases hplace k _ mk hwk hk1 hmk with g5 | ⟨c, mc, bc, nc, g5, g6, g7, g8⟩
        · omega
        · have hci : i ≠ c := fun e => hwi (.inr (e ▸ g5))
          have := D.inj i c b (true, bc) mi mc n nc hi g8 hci g1 g6
          rw [← g7]; exact this
      · rw [hHn k hwk] at hk
        obtain ⟨o2, b2⟩ := e
        obtain ⟨m2, k1, k2, k3⟩ := himg k o2 b2 n' hk
        have k4 := F2 k m2 k1
        rw [hmk] at k4
        cases k4
        exact D.inj i k b (o2, b2) mi mk n n' hi hk hik g1 k1
  · -- new numbers
    cases h3 : ρ i with
    | some m' =>
      obtain ⟨x, g1, g2, g3⟩ := D.new i m' h3 h2
      exact ⟨x, g1, addS_of g2, g3⟩
    | none =>
      have := F4 i m h1 h3
      exact ⟨r, hmem, addS_self S r.ix, this.1⟩
  · -- where new ones lie
    have lsm : ∀ j, LS recs st0 S j → LS recs st0 (addS S r.ix) j := fun j h => h.imp id fun ⟨x, g1, g2, g3⟩ => ⟨x, g1, addS_of g2, g3⟩
    cases h3 : ρ i with
    | some m' =>
      have := F2 i m' h3
      rw [h1] at this
      cases this
      exact (D.acq i m h3 h2).imp id fun ⟨j, mj, g1, g2⟩ => ⟨j, mj, lsm j g1, g2⟩
    | none =>
      have h4 := F4 i m h1 h3
      rcases hX.acq i m h4.2 (by unfold Inj.upto; rw [if_neg (by omega)]) with g1 | ⟨c, mc, g1, g2, g3⟩
      · exact .inl (Nat.le_trans D.size g1)
      · have g4 := Inj.upto_eq g2
        cases g5 : ρ0 c with
        | some mc' =>
          have := D.le c mc' g5
          rw [g4.1] at this
          cases this
          exact .inr ⟨c, mc, .inr ⟨r, hmem, addS_self S r.ix, hwlg c g1 g4.2⟩, g5, g3⟩
        | none =>
          rcases D.acq c mc g4.1 g5 with g6 | ⟨j, mj, g6, g7, g8⟩
          · exact .inl (g3 ▸ g6)
          · exact .inr ⟨j, mj, lsm j g6, g7, g8.trans g3⟩
  · -- the rest of the world
    have lsm : ∀ j, LS recs st0 S j → LS recs st0 (addS S r.ix) j := fun j h => h.imp id fun ⟨x, g1, g2, g3⟩ => ⟨x, g1, addS_of g2, g3⟩
    rw [hX.frame x (Nat.lt_of_lt_of_le hx D.size) ?_]
    · exact D.frame x hx fun j mj g1 g2 => hn j mj (lsm j g1) g2
    · intro c mc g1 g2 g3
      have g4 := Inj.upto_eq g2
      cases g5 : ρ0 c with
      | some mc' =>
        have := D.le c mc' g5
        rw [g4.1] at this
        cases this
        exact hn c mc (.inr ⟨r, hmem, addS_self S r.ix, hwlg c g1 g4.2⟩) g5 g3
      | none =>
        rcases D.acq c mc g4.1 g5 with g6 | ⟨j, mj, g6, g7, g8⟩
        · omega
        · exact hn j mj (lsm j g6) g7 (g8.trans g3)
  · -- what is written is one's own
    rcases h1 with h1 | ⟨x, g1, g2, g3⟩
    · exact absurd h1 h2
    · by_cases hx : x.ix = r.ix
      · have := hix x g1 hx
        subst this
        obtain ⟨m0, hm0⟩ := Option.isSome_iff_exists.1 h3
        have hm1 := D.le i m0 hm0
        obtain ⟨b', hb'⟩ := hX.own i (hlgw i g3) (by simp) (by rw [Inj.upto_of hm1 (hlo3 i g3)]; rfl)
        obtain ⟨n', hn'⟩ := hsub i _ hb'
        exact D.own' i b' n' h3 hn'
      · exact D.own i (.inr ⟨x, g1, by rw [addS_ne hx] at g2; exact g2, g3⟩) h2 h3
  · by_cases hw : Wr r i
    · rw [hHw i hw] at h2
      obtain ⟨e, g1, g2⟩ := Option.map_eq_some_iff.1 h2
      cases g2
      obtain ⟨m0, hm0⟩ := Option.isSome_iff_exists.1 h1
      have hm1 := D.le i m0 hm0
      have hlt : i < st0.next := by
        rcases Nat.lt_or_ge i st0.next with h | h
        · exact h
        · rw [hF i h] at hm0; cases hm0
      obtain ⟨b', hb'⟩ := hX.own' i b (by rw [Inj.upto_of hm1 (by omega)]; rfl) g1
      obtain ⟨n', hn'⟩ := hsub i _ hb'
      exact D.own' i b' n' h1 hn'
    · rw [hHn i hw] at h2
      exact D.own' i b n h1 h2
end
end Go.Am
