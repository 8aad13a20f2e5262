/- Regions whose order is drawn: every order comes to what the text's order comes to. -/
import Derived.Test.YtbhiilfifandhaaAm18
set_option linter.unusedVariables false
set_option linter.unusedSimpArgs false
set_option linter.unusedSectionVars false
namespace Go.Am

/-! ### What an operation hangs on -/
def bitsOf (acc : List Nat) (es : List Edge) (s : Nat) : Nat := es.foldl (fun s e => if Region.binds .any e then s ||| 2 ^ e.on ||| (get acc e.on).getD 0 else s) s
theorem bitsOf_test (acc : List Nat) (es : List Edge) : ∀ (s b : Nat), (bitsOf acc es s).testBit b = true → s.testBit b = true ∨ ∃ e, e ∈ es ∧ Region.binds .any e = true ∧ (b = e.on ∨ ((get acc e.on).getD 0).testBit b = true) := by
  induction es with
  | nil => intro s b h; exact .inl h
  | cons e r ih =>
    intro s b h
    unfold bitsOf at h
    rw [List.foldl_cons] at h
    rcases ih _ b h with h1 | ⟨e', h1, h2, h3⟩
    · split at h1
      · rename_i hb
        rw [Nat.testBit_or, Nat.testBit_or, Bool.or_eq_true, Bool.or_eq_true] at h1
        rcases h1 with (h1 | h1) | h1
        · exact .inl h1
        · rw [Nat.testBit_two_pow] at h1
          exact .inr ⟨e, List.mem_cons_self .., hb, .inl (by simpa using (of_decide_eq_true h1).symm)⟩
        · exact .inr ⟨e, List.mem_cons_self .., hb, .inr h1⟩
      · exact .inl h1
    · exact .inr ⟨e', List.mem_cons_of_mem _ h1, h2, h3⟩
theorem before_cons (o : Oper) (r : List Oper) (acc : List Nat) : before (o :: r) acc = before r (acc ++ [bitsOf acc o.after.toList 0]) := rfl
theorem before_get (l : List Oper) : ∀ (acc : List Nat) (k : Nat), k < acc.length → get (before l acc) k = get acc k := by
  induction l with
  | nil => intro acc k _; rfl
  | cons o r ih =>
    intro acc k hk
    rw [before_cons, ih _ k (by simp; omega), get_eq, get_eq, List.getElem?_append_left hk]
theorem before_at (l : List Oper) : ∀ (acc : List Nat) (k : Nat) (o : Oper), l[k]? = some o → ∃ acc', acc'.length = acc.length + k ∧ (∀ i, i < acc'.length → get acc' i = get (before l acc) i) ∧ get (before l acc) (acc.length + k) = some (bitsOf acc' o.after.toList 0) := by
  induction l with
  | nil => intro acc k o h; simp at h
  | cons x r ih =>
    intro acc k o h
    cases k with
    | zero =>
      simp at h
      subst h
      refine ⟨acc, rfl, fun i hi => (before_get _ acc i hi).symm, ?_⟩
      rw [before_cons, before_get _ _ _ (by simp), get_eq]
      simp
    | succ k =>
      obtain ⟨acc', h1, h2, h3⟩ := ih (acc ++ [bitsOf acc x.after.toList 0]) k o (by simpa using h)
      refine ⟨acc', by rw [h1]; simp; omega, h2, ?_⟩
      rw [before_cons]
      rw [show acc.length + (k + 1) = (acc ++ [bitsOf acc x.after.toList 0]).length + k by simp; omega]
      exact h3
def pmOf (ops : Array Oper) (i : Nat) : Nat := (get (before ops.toList []) i).getD 0
theorem pmOf_test {ops : Array Oper} {i : Nat} {o : Oper} (ho : ops[i]? = some o) (hok : ∀ e, e ∈ o.after.toList → Region.binds .any e = true → e.on < i) {b : Nat} (h : (pmOf ops i).testBit b = true) :
    ∃ e, e ∈ o.after.toList ∧ Region.binds .any e = true ∧ (b = e.on ∨ (pmOf ops e.on).testBit b = true) := by
  obtain ⟨acc', h1, h2, h3⟩ := before_at ops.toList [] i o (by simpa using ho)
  simp only [List.length_nil, Nat.zero_add] at h1 h3
  unfold pmOf at h
  rw [h3] at h
  simp only [Option.getD_some] at h
  rcases bitsOf_test _ _ _ _ h with h4 | ⟨e, h4, h5, h6⟩
  · simp at h4
  · refine ⟨e, h4, h5, h6.imp id fun h7 => ?_⟩
    unfold pmOf
    rw [← h2 e.on (by rw [h1]; exact hok e h4 h5)]
    exact h7

/-! ### The notes of a run -/
section
variable (E : Env) (cf : CallF) (ops : Array Oper) (tmps0 : List Value) (st0 : St)
def Good (pre : List Rec) (r : Rec) : Prop :=
  ∃ o, ops[pre.length]? = some o ∧ recOf E cf ops (tmpsAt pre tmps0) o pre.length (stAt pre st0) = some r ∧ recOk E o r = true ∧ ∀ p, p ∈ pre → (pmOf ops pre.length).testBit p.ix = true ∨ apart1 r p = true
def GdFrom : List Rec → List Rec → Prop
  | _, [] => True
  | pre, r :: post => Good E cf ops tmps0 st0 pre r ∧ GdFrom (pre ++ [r]) post
end
theorem tmpsAt_snoc (pre : List Rec) (r : Rec) (t : List Value) : tmpsAt (pre ++ [r]) t = put (tmpsAt pre t) r.dst r.v := by simp [tmpsAt]
theorem stAt_snoc (pre : List Rec) (r : Rec) (st : St) : stAt (pre ++ [r]) st = stRec r (stAt pre st) := by simp [stAt]
section
variable {E : Env} {cf : CallF} {ops : Array Oper} {tmps0 : List Value} {st0 : St}
theorem apartAll_iff {pm : Nat} {x : Rec} {rs : List Rec} (h : apartAll pm x rs = true) : ∀ r, r ∈ rs → pm.testBit r.ix = true ∨ apart1 x r = true := by
  induction rs with
  | nil => simp
  | cons a l ih =>
    simp only [apartAll, Bool.and_eq_true, Bool.or_eq_true] at h
    intro r hr
    rcases List.mem_cons.1 hr with rfl | hr
    · exact h.1
    · exact ih h.2 r hr
theorem drawn_notes {K : Res → Prop} (rest : List Oper) : ∀ (pre : List Rec), ops.toList.drop pre.length = rest → (drawn E cf ops rest (before ops.toList []) pre.length pre.reverse (tmpsAt pre tmps0) (stAt pre st0)).All K →
    ∃ post, post.length = rest.length ∧ GdFrom E cf ops tmps0 st0 pre post ∧ K (.normal, tmpsAt (pre ++ post) tmps0, stAt (pre ++ post) st0) := by
  induction rest with
  | nil => intro pre _ h; exact ⟨[], rfl, trivial, by rw [List.append_nil]; exact h⟩
  | cons o rest ih =>
    intro pre hd h
    unfold drawn at h
    split at h
    · rename_i r hr
      split at h
      · rename_i hc
        rw [Bool.and_eq_true] at hc
        have ho : ops[pre.length]? = some o := by
          have : (ops.toList.drop pre.length)[0]? = some o := by rw [hd]; rfl
          rw [List.getElem?_drop] at this
          simpa using this
        have hd' : ops.toList.drop (pre ++ [r]).length = rest := by
          rw [List.length_append, List.length_singleton, ← List.drop_drop, hd]
          rfl
        have h' : (drawn E cf ops rest (before ops.toList []) (pre ++ [r]).length (pre ++ [r]).reverse (tmpsAt (pre ++ [r]) tmps0) (stAt (pre ++ [r]) st0)).All K := by
          rw [tmpsAt_snoc, stAt_snoc, List.reverse_append, List.length_append]
          exact h
        obtain ⟨post, h1, h2, h3⟩ := ih (pre ++ [r]) hd' h'
        refine ⟨r :: post, by simp [h1], ⟨⟨o, ho, hr, hc.2, fun p hp => ?_⟩, h2⟩, by rw [List.append_assoc] at h3; exact h3⟩
        exact apartAll_iff hc.1 p (by simpa using hp)
      · exact h.elim
    · exact h.elim
theorem recOf_eq {o : Oper} {tmps : List Value} {j : Nat} {st : St} {r : Rec} (h : recOf E cf ops tmps o j st = some r) :
    r.ix = j ∧ r.dst = o.dst ∧ r.names = namesOf ops o ∧ r.lo = st.next ∧
      guardOk ops tmps o = true ∧ ((wanted ops tmps o = true ∧ ∃ g, alone E cf tmps o st = some (r.touch, r.v, g) ∧ r.wr = olds st.next g.log ∧ r.hi = g.next ∧ r.heap = g.heap) ∨ (wanted ops tmps o = false ∧ r.touch = [] ∧ r.wr = [] ∧ r.hi = st.next ∧ r.v = .tuple #[] ∧ r.heap = [])) := by
  unfold recOf at h
  split at h
  · cases h
  rename_i hgd
  have hgd' : guardOk ops tmps o = true := by simpa using hgd
  split at h
  · rename_i hw
    split at h
    · rename_i f v g ha
      cases h
      exact ⟨rfl, rfl, rfl, rfl, hgd', .inl ⟨hw, g, ha, rfl, rfl, rfl⟩⟩
    · cases h
  · rename_i hw
    cases h
    exact ⟨rfl, rfl, rfl, rfl, hgd', .inr ⟨by simpa using hw, rfl, rfl, rfl, rfl, rfl⟩⟩
theorem GdFrom.at {pre a b : List Rec} {r : Rec} (h : GdFrom E cf ops tmps0 st0 pre (a ++ r :: b)) : Good E cf ops tmps0 st0 (pre ++ a) r := by
  induction a generalizing pre with
  | nil => simpa using h.1
  | cons x a ih =>
    have := ih (pre := pre ++ [x]) h.2
    simpa using this
theorem GdFrom.next {pre a b : List Rec} (h : GdFrom E cf ops tmps0 st0 pre (a ++ b)) : (stAt pre st0).next ≤ (stAt (pre ++ a) st0).next := by
  induction a generalizing pre with
  | nil => simp
  | cons x a ih =>
    have h1 := ih (pre := pre ++ [x]) h.2
    obtain ⟨o, g1, g2, g3, g4⟩ := h.1
    obtain ⟨q1, q2, q3, q4, _⟩ := recOf_eq g2
    have h2 : x.lo ≤ x.hi := by
      simp only [recOk, Bool.and_eq_true] at g3
      exact (ble_iff _ _).1 g3.1.2
    rw [stAt_snoc] at h1
    have h3 : (stRec x (stAt pre st0)).next = x.hi := rfl
    have h4 : pre ++ [x] ++ a = pre ++ x :: a := by simp
    rw [h3, h4] at h1
    omega
theorem GdFrom.notes {pre post : List Rec} (h : GdFrom E cf ops tmps0 st0 pre post) :
    (post.Pairwise fun r x => r.ix < x.ix ∧ r.hi ≤ x.lo ∧ ((pmOf ops x.ix).testBit r.ix = true ∨ Ap x r)) ∧ ∀ r, r ∈ post → (stAt pre st0).next ≤ r.lo ∧ r.lo ≤ r.hi ∧ (∀ k, k ∈ r.wr → k < r.lo) ∧ (∀ i, i ∈ r.wr → i ∈ r.touch ∧ E.ng ≤ i) ∧ ∀ t, r.dst = some t → t ∈ r.names := by
  induction post generalizing pre with
  | nil => exact ⟨.nil, by simp⟩
  | cons r post ih =>
    obtain ⟨i1, i2⟩ := ih h.2
    have hgood := h.1
    obtain ⟨o, g1, g2, g3, g4⟩ := hgood
    obtain ⟨q1, q2, q3, q4, _, q5⟩ := recOf_eq g2
    simp only [recOk, Bool.and_eq_true] at g3
    have hle : r.lo ≤ r.hi := (ble_iff _ _).1 g3.1.2
    have hnx : (stAt (pre ++ [r]) st0).next = r.hi := by rw [stAt_snoc]; rfl
    refine ⟨List.pairwise_cons.2 ⟨fun x hx => ?_, i1⟩, fun x hx => ?_⟩
    · obtain ⟨b, c, rfl⟩ := List.append_of_mem hx
      have hg := GdFrom.at (pre := pre ++ [r]) (a := b) (r := x) (b := c) h.2
      have hn := GdFrom.next (pre := pre ++ [r]) (a := b) (b := x :: c) h.2
      obtain ⟨o', k1, k2, k3, k4⟩ := hg
      obtain ⟨m1, m2, m3, m4, _⟩ := recOf_eq k2
      refine ⟨by rw [q1, m1]; simp, by rw [m4, ← hnx]; exact hn, ?_⟩
      rw [m1]
      exact (k4 r (by simp)).imp id apart1_true
    · rcases List.mem_cons.1 hx with rfl | hx
      · refine ⟨Nat.le_of_eq q4.symm, hle, fun k hk => ?_, fun i hi => ⟨allIn_true g3.1.1.1 i hi, allGe_true g3.1.1.2 i hi⟩, fun t ht => ?_⟩
        · rcases q5 with ⟨_, g, _, e1, _⟩ | ⟨_, _, e1, _⟩
          · rw [e1] at hk; rw [q4]; exact ((mem_olds _ _ _).1 hk).2
          · rw [e1] at hk; simp at hk
        · rw [q3]
          unfold namesOf
          rw [← q2, ht]
          simp [dstL]
      · have := i2 x hx
        rw [hnx] at this
        exact ⟨by omega, this.2⟩
end
end Go.Am
