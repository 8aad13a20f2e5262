/- How the machine's heap and values stand to the model's: the relation, and what keeps it. -/
import Derived.Test.YtbhiilfifandhaaAm1
import Derived.Laws.World
import Derived.Laws.Rows
set_option linter.unusedVariables false
namespace Go.Am

/-! ### Trees -/
theorem T.All_bind {α β : Type} (x : T α) (f : α → T β) (K : β → Prop) : (x.bind f).All K ↔ x.All (fun a => (f a).All K) := by
  induction x with
  | ret a => exact Iff.rfl
  | fail => exact Iff.rfl
  | pick n k ih => simp only [T.bind, T.All, ih]
theorem T.All_mono {α : Type} {K L : α → Prop} {x : T α} (h : x.All K) (hk : ∀ a, K a → L a) : x.All L := by
  induction x with
  | ret a => exact hk _ h
  | fail => exact h
  | pick n k ih => exact fun i hi => ih i (h i hi)
theorem T.All_of {α : Type} {K : α → Prop} {o : Option α} (h : (T.of o).All K) : ∃ a, o = some a ∧ K a := by
  cases o with
  | none => exact h.elim
  | some a => exact ⟨a, rfl, h⟩
theorem allBelow_iff (p : Nat → Bool) (n : Nat) : allBelow p n = true ↔ ∀ i, i < n → p i = true := by
  induction n with
  | zero => simp [allBelow]
  | succ n ih =>
    simp only [allBelow, Bool.and_eq_true, ih]
    constructor
    · rintro ⟨h0, h⟩ i hi
      rcases Nat.lt_succ_iff_lt_or_eq.1 hi with h' | h'
      · exact h i h'
      · exact h' ▸ h0
    · exact fun h => ⟨h n (Nat.lt_succ_self n), fun i hi => h i (Nat.lt_succ_of_lt hi)⟩
theorem T.all_iff {α : Type} (K : α → Bool) (x : T α) : x.all K = true ↔ x.All (fun a => K a = true) := by
  induction x with
  | ret a => exact Iff.rfl
  | fail => simp [T.all, T.All]
  | pick n k ih => simp only [T.all, T.All, allBelow_iff, ih]

/-! ### Lists and heaps -/
theorem get_eq {α : Type} (l : List α) (n : Nat) : get l n = l[n]? := by
  induction l generalizing n with
  | nil => simp [get]
  | cons a r ih => cases n <;> simp [get, ih]
theorem beq_eq {a b : Nat} : (Nat.beq a b = true) = (a = b) := by simp
theorem find_cons (j : Nat) (e : Bool × Blk) (r : Heap) (i : Nat) : find ((j, e) :: r) i = if j = i then some e else find r i := by
  simp only [find]
  by_cases h : j = i
  · simp [h]
  · have : Nat.beq j i = false := by rw [Bool.eq_false_iff]; simpa using h
    simp [this, h]
theorem find_filt (p : Nat → Bool) (h : Heap) (i : Nat) : find (filt p h) i = if p i = true then find h i else none := by
  induction h with
  | nil => simp [filt, find]
  | cons a r ih =>
    obtain ⟨j, e⟩ := a
    simp only [filt]
    by_cases hp : p j = true
    · rw [if_pos hp, find_cons, find_cons, ih]
      by_cases hj : j = i
      · subst hj; simp [hp]
      · simp [hj]
    · rw [if_neg hp, find_cons, ih]
      by_cases hj : j = i
      · subst hj; simp [hp]
      · simp [hj]
theorem find_repl (h : Heap) (i : Nat) (x : Blk) (j : Nat) : find (repl h i x) j = if j = i then (find h i).map (fun e => (e.1, x)) else find h j := by
  induction h with
  | nil => simp [repl, find]
  | cons a r ih =>
    obtain ⟨k, o, b⟩ := a
    simp only [repl]
    by_cases hk : k = i
    · have : Nat.beq k i = true := by simpa using hk
      rw [this, if_pos rfl, find_cons, find_cons, find_cons]
      subst hk
      by_cases hj : j = k
      · subst hj; simp
      · simp [hj, Ne.symm hj]
    · have : Nat.beq k i = false := by rw [Bool.eq_false_iff]; simpa using hk
      rw [this]
      simp only [Bool.false_eq_true, if_false]
      rw [find_cons, ih, find_cons, find_cons]
      by_cases hj : j = i
      · subst hj; simp [hk]
      · simp [hj]
theorem mem_iff (i : Nat) (l : List Nat) : mem i l = true ↔ i ∈ l := by
  induction l with
  | nil => simp [mem]
  | cons a r ih => simp only [mem, Bool.or_eq_true, ih, List.mem_cons]; simp
theorem mem_addTo (i j : Nat) (l : List Nat) : j ∈ addTo i l ↔ j = i ∨ j ∈ l := by
  unfold addTo
  split
  · rename_i h
    rw [mem_iff] at h
    constructor
    · exact .inr
    · rintro (rfl | h') <;> assumption
  · simp
theorem mem_joinLog (l m : List Nat) (j : Nat) : j ∈ joinLog l m ↔ j ∈ l ∨ j ∈ m := by
  induction l generalizing m with
  | nil => simp [joinLog]
  | cons a r ih =>
    simp only [joinLog, ih, mem_addTo, List.mem_cons]
    constructor
    · rintro (h | h | h) <;> simp [h]
    · rintro ((h | h) | h) <;> simp [h]
theorem blt_iff (a b : Nat) : Nat.blt a b = true ↔ a < b := by simp [Nat.blt, Nat.succ_le_iff]
theorem ble_iff (a b : Nat) : Nat.ble a b = true ↔ a ≤ b := by simp
theorem mem_olds (n : Nat) (l : List Nat) (j : Nat) : j ∈ olds n l ↔ j ∈ l ∧ j < n := by
  induction l with
  | nil => simp [olds]
  | cons a r ih =>
    simp only [olds]
    by_cases h : a < n
    · rw [if_pos ((blt_iff a n).2 h)]
      simp only [List.mem_cons, ih]
      constructor
      · rintro (rfl | ⟨h1, h2⟩)
        · exact ⟨.inl rfl, h⟩
        · exact ⟨.inr h1, h2⟩
      · rintro ⟨rfl | h1, h2⟩
        · exact .inl rfl
        · exact .inr ⟨h1, h2⟩
    · rw [if_neg (by rw [blt_iff]; exact h)]
      simp only [List.mem_cons, ih]
      constructor
      · rintro ⟨h1, h2⟩; exact ⟨.inr h1, h2⟩
      · rintro ⟨rfl | h1, h2⟩
        · exact absurd h2 h
        · exact ⟨h1, h2⟩

/-! ### Where a block lies -/
/-- A block of the model's, from which cell on, how many cells there are, how many an element has; or a value that is not known. -/
structure Img where
  blk : Nat
  off : Nat
  tot : Nat
  sz : Nat
  val : Value
abbrev Inj := Nat → Option Img
def Inj.le (ρ ρ' : Inj) : Prop := ∀ i m, ρ i = some m → ρ' i = some m
theorem Inj.le.refl (ρ : Inj) : ρ.le ρ := fun _ _ h => h
theorem Inj.le.trans {ρ ρ' ρ'' : Inj} (h : ρ.le ρ') (h' : ρ'.le ρ'') : ρ.le ρ'' := fun i m e => h' i m (h i m e)

/-- A value of the machine's and the model's. -/
inductive VRel (ρ : Inj) : Value → Value → Prop
  | flat {v : Value} (h : flat v = true) : VRel ρ v v
  | ptr {i off : Nat} {m : Img} (h : ρ i = some m) : VRel ρ (.pointer (some ⟨i, off, none⟩)) (.pointer (some ⟨m.blk, m.off + off, none⟩))
  | opens {i off len cap cap' : Nat} {m : Img} (h : ρ i = some m) (hl : len ≤ cap) (hc : cap ≤ cap') (ht : m.off + off + cap' * m.sz ≤ m.tot) :
      VRel ρ (.slice (some ⟨i, off, none⟩) len cap) (.slice (some ⟨m.blk, m.off + off, none⟩) len cap')
  | shut {i off len cap k : Nat} {m : Img} (h : ρ i = some m) (hl : len ≤ cap) :
      VRel ρ (.slice (some ⟨i, off, some k⟩) len cap) (.slice (some ⟨m.blk, m.off + off, none⟩) len cap)
  | empty {i off : Nat} {s : Option Nat} {b o : Nat} : VRel ρ (.slice (some ⟨i, off, s⟩) 0 0) (.slice (some ⟨b, o, none⟩) 0 0)
  | map {i : Nat} {m : Img} (h : ρ i = some m) : VRel ρ (.map (some i)) (.map (some m.blk))
  | func {f : FuncId} {fi ca fi' ca' : List Value} (hl : fi.length = fi'.length) (hf : ∀ (j : Nat) v v', fi[j]? = some v → fi'[j]? = some v' → VRel ρ v v')
      (hl' : ca.length = ca'.length) (hc : ∀ (j : Nat) v v', ca[j]? = some v → ca'[j]? = some v' → VRel ρ v v') :
      VRel ρ (.func (.func f) ⟨fi⟩ ⟨ca⟩) (.func (.func f) ⟨fi'⟩ ⟨ca'⟩)
  | tok {i : Nat} {m : Img} (h : ρ i = some m) (ho : m.val.oneCell' = true) : VRel ρ (.chan (some i)) m.val
  | agg {cs cs' : List Value} (hl : cs.length = cs'.length) (hc : ∀ (j : Nat) v v', cs[j]? = some v → cs'[j]? = some v' → VRel ρ v v') : VRel ρ (.agg ⟨cs⟩) (.agg ⟨cs'⟩)
  | tuple {cs cs' : List Value} (hl : cs.length = cs'.length) (hc : ∀ (j : Nat) v v', cs[j]? = some v → cs'[j]? = some v' → VRel ρ v v') : VRel ρ (.tuple ⟨cs⟩) (.tuple ⟨cs'⟩)

theorem VRel.mono {ρ ρ' : Inj} (hle : ρ.le ρ') {v v' : Value} (h : VRel ρ v v') : VRel ρ' v v' := by
  induction h with
  | flat h => exact .flat h
  | ptr h => exact .ptr (hle _ _ h)
  | opens h hl hc ht => exact .opens (hle _ _ h) hl hc ht
  | shut h hl => exact .shut (hle _ _ h) hl
  | empty => exact .empty
  | map h => exact .map (hle _ _ h)
  | func hl hf hl' hc ih1 ih2 => exact .func hl ih1 hl' ih2
  | tok h ho => exact .tok (hle _ _ h) ho
  | agg hl hc ih => exact .agg hl ih
  | tuple hl hc ih => exact .tuple hl ih

/-- Lists of values. -/
def LRel (ρ : Inj) (vs vs' : List Value) : Prop := vs.length = vs'.length ∧ ∀ (j : Nat) v v', vs[j]? = some v → vs'[j]? = some v' → VRel ρ v v'
theorem LRel.mono {ρ ρ' : Inj} (hle : ρ.le ρ') {vs vs' : List Value} (h : LRel ρ vs vs') : LRel ρ' vs vs' := ⟨h.1, fun j v v' a b => (h.2 j v v' a b).mono hle⟩
theorem LRel.nil (ρ : Inj) : LRel ρ [] [] := ⟨rfl, by simp⟩
theorem LRel.cons {ρ : Inj} {v v' : Value} {vs vs' : List Value} (h : VRel ρ v v') (hs : LRel ρ vs vs') : LRel ρ (v :: vs) (v' :: vs') :=
  ⟨by simp [hs.1], fun j a a' ha ha' => by
    cases j with
    | zero => simp at ha ha'; subst ha; subst ha'; exact h
    | succ j => simp at ha ha'; exact hs.2 j a a' ha ha'⟩
theorem LRel.cons_inv {ρ : Inj} {v : Value} {vs ws : List Value} (h : LRel ρ (v :: vs) ws) : ∃ v' vs', ws = v' :: vs' ∧ VRel ρ v v' ∧ LRel ρ vs vs' := by
  cases ws with
  | nil => simp [LRel] at h
  | cons v' vs' =>
    refine ⟨v', vs', rfl, h.2 0 v v' rfl rfl, by simpa using h.1, fun j a a' ha ha' => h.2 (j + 1) a a' (by simpa using ha) (by simpa using ha')⟩
theorem LRel.nil_inv {ρ : Inj} {ws : List Value} (h : LRel ρ [] ws) : ws = [] := by
  cases ws with
  | nil => rfl
  | cons a r => simp [LRel] at h
theorem LRel.get {ρ : Inj} {vs vs' : List Value} (h : LRel ρ vs vs') {j : Nat} {v : Value} (hj : vs[j]? = some v) : ∃ v', vs'[j]? = some v' ∧ VRel ρ v v' := by
  have hlt : j < vs.length := (List.getElem?_eq_some_iff.1 hj).1
  have hlt' : j < vs'.length := h.1 ▸ hlt
  exact ⟨vs'[j], List.getElem?_eq_getElem hlt', h.2 j v _ hj (List.getElem?_eq_getElem hlt')⟩
theorem LRel.append {ρ : Inj} {a a' b b' : List Value} (h : LRel ρ a a') (h' : LRel ρ b b') : LRel ρ (a ++ b) (a' ++ b') := by
  induction a generalizing a' with
  | nil => rw [h.nil_inv]; exact h'
  | cons v r ih =>
    obtain ⟨v', r', rfl, hv, hr⟩ := h.cons_inv
    exact (ih hr).cons hv
theorem LRel.drop {ρ : Inj} {a a' : List Value} (h : LRel ρ a a') (n : Nat) : LRel ρ (a.drop n) (a'.drop n) :=
  ⟨by simp [h.1], fun j v v' hv hv' => h.2 (n + j) v v' (by simpa using hv) (by simpa using hv')⟩
theorem LRel.take {ρ : Inj} {a a' : List Value} (h : LRel ρ a a') (n : Nat) : LRel ρ (a.take n) (a'.take n) :=
  ⟨by simp [h.1], fun j v v' hv hv' => by
    rw [List.getElem?_take] at hv hv'
    split at hv
    · rename_i hj; rw [if_pos hj] at hv'; exact h.2 j v v' hv hv'
    · cases hv⟩
theorem LRel.set {ρ : Inj} {a a' : List Value} (h : LRel ρ a a') (n : Nat) {v v' : Value} (hv : VRel ρ v v') : LRel ρ (a.set n v) (a'.set n v') :=
  ⟨by simp [h.1], fun j x x' hx hx' => by
    rw [List.getElem?_set] at hx hx'
    by_cases hj : n = j
    · subst hj
      by_cases hn : n < a.length
      · have hn' : n < a'.length := h.1 ▸ hn
        simp [hn] at hx
        simp [hn'] at hx'
        subst hx; subst hx'; exact hv
      · simp [hn] at hx
    · simp [hj] at hx hx'
      exact h.2 j x x' hx hx'⟩
theorem LRel.replicate {ρ : Inj} (n : Nat) {v v' : Value} (hv : VRel ρ v v') : LRel ρ (List.replicate n v) (List.replicate n v') :=
  ⟨by simp, fun j x x' hx hx' => by
    rw [List.getElem?_replicate] at hx hx'
    split at hx
    · rename_i hj; rw [if_pos hj] at hx'; cases hx; cases hx'; exact hv
    · cases hx⟩
theorem VRel.mk_agg {ρ : Inj} {cs cs' : List Value} (h : LRel ρ cs cs') : VRel ρ (.agg ⟨cs⟩) (.agg ⟨cs'⟩) := .agg h.1 h.2
theorem VRel.mk_tuple {ρ : Inj} {cs cs' : List Value} (h : LRel ρ cs cs') : VRel ρ (.tuple ⟨cs⟩) (.tuple ⟨cs'⟩) := .tuple h.1 h.2

theorem flatL_iff (l : List Value) : flatL l = true ↔ ∀ v, v ∈ l → flat v = true := by
  induction l with
  | nil => simp [flatL]
  | cons a r ih => simp [flatL, ih]
theorem flatL_get {l : List Value} (h : flatL l = true) {j : Nat} {v : Value} (hj : l[j]? = some v) : flat v = true := (flatL_iff l).1 h v (List.mem_of_getElem? hj)
/-- Of a value that leads nowhere the model has the same. -/
theorem VRel.same {ρ : Inj} {v v' : Value} (h : VRel ρ v v') (hf : Am.flat v = true) : v' = v := by
  induction h with
  | flat h => rfl
  | ptr h => simp [Am.flat] at hf
  | opens h hl hc ht => simp [Am.flat] at hf
  | shut h hl => simp [Am.flat] at hf
  | empty => simp [Am.flat] at hf
  | map h => simp [Am.flat] at hf
  | tok h ho => simp [Am.flat] at hf
  | func hl hf' hl' hc ih1 ih2 => simp [Am.flat] at hf
  | @agg cs cs' hl hc ih =>
    have : cs' = cs := by
      apply List.ext_getElem?
      intro j
      cases hj : cs[j]? with
      | none => rw [List.getElem?_eq_none_iff] at hj ⊢; omega
      | some v =>
        have hlt := (List.getElem?_eq_some_iff.1 hj).1
        have hj' : cs'[j]? = some cs'[j] := List.getElem?_eq_getElem (hl ▸ hlt)
        rw [hj', ih j v _ hj hj' (flatL_get (by simpa [Am.flat] using hf) hj)]
    rw [this]
  | @tuple cs cs' hl hc ih =>
    have : cs' = cs := by
      apply List.ext_getElem?
      intro j
      cases hj : cs[j]? with
      | none => rw [List.getElem?_eq_none_iff] at hj ⊢; omega
      | some v =>
        have hlt := (List.getElem?_eq_some_iff.1 hj).1
        have hj' : cs'[j]? = some cs'[j] := List.getElem?_eq_getElem (hl ▸ hlt)
        rw [hj', ih j v _ hj hj' (flatL_get (by simpa [Am.flat] using hf) hj)]
    rw [this]
theorem LRel.flat {ρ : Inj} {l : List Value} (h : flatL l = true) : LRel ρ l l :=
  ⟨rfl, fun j v v' hv hv' => by rw [hv] at hv'; cases hv'; exact .flat (flatL_get h hv)⟩
theorem LRel.same {ρ : Inj} {l l' : List Value} (h : LRel ρ l l') (hf : flatL l = true) : l' = l := by
  apply List.ext_getElem?
  intro j
  cases hj : l[j]? with
  | none => rw [List.getElem?_eq_none_iff] at hj ⊢; have := h.1; omega
  | some v =>
    obtain ⟨v', hv', hr⟩ := h.get hj
    rw [hv', hr.same (flatL_get hf hj)]

/-- The cells of a value. -/
theorem VRel.cells {ρ : Inj} {v v' : Value} (h : VRel ρ v v') : LRel ρ v.cells.toList v'.cells.toList := by
  cases h with
  | @flat v h =>
    by_cases ha : ∃ cs, v = .agg cs
    · obtain ⟨⟨cs⟩, rfl⟩ := ha
      exact LRel.flat (show flatL cs = true by simpa [Am.flat] using h)
    · have : v.cells = #[v] := by
        cases v <;> first | rfl | exact absurd ⟨_, rfl⟩ ha
      rw [this]
      exact (LRel.nil ρ).cons (.flat h)
  | agg hl hc => exact ⟨hl, hc⟩
  | ptr h => exact (LRel.nil ρ).cons (.ptr h)
  | opens h hl hc ht => exact (LRel.nil ρ).cons (.opens h hl hc ht)
  | shut h hl => exact (LRel.nil ρ).cons (.shut h hl)
  | empty => exact (LRel.nil ρ).cons .empty
  | map h => exact (LRel.nil ρ).cons (.map h)
  | func hl hf hl' hc => exact (LRel.nil ρ).cons (.func hl hf hl' hc)
  | @tok i m h ho =>
    have : m.val.cells = #[m.val] := by
      generalize m.val = x at ho
      cases x <;> first | rfl | cases ho
    rw [this]
    exact (LRel.nil ρ).cons (.tok h ho)
  | tuple hl hc => exact (LRel.nil ρ).cons (.tuple hl hc)
theorem VRel.oneCell {ρ : Inj} {v v' : Value} (h : VRel ρ v v') : v'.oneCell' = v.oneCell' := by
  cases h with
  | tok h ho => rw [ho]; rfl
  | _ => rfl

/-! ### Blocks -/
/-- Entries of a map. -/
def ERel (ρ : Inj) (es es' : List MapEntry) : Prop :=
  es.length = es'.length ∧ ∀ (j : Nat) e e', es[j]? = some e → es'[j]? = some e' → VRel ρ e.key e'.key ∧ VRel ρ e.val e'.val ∧ e.born = e'.born
theorem ERel.mono {ρ ρ' : Inj} (hle : ρ.le ρ') {es es' : List MapEntry} (h : ERel ρ es es') : ERel ρ' es es' :=
  ⟨h.1, fun j e e' a b => let ⟨x, y, z⟩ := h.2 j e e' a b; ⟨x.mono hle, y.mono hle, z⟩⟩
def MRel (ρ : Inj) : Option Nat → Option Nat → Prop
  | none, none => True
  | some i, some b => ∃ m, ρ i = some m ∧ b = m.blk
  | _, _ => False
theorem MRel.mono {ρ ρ' : Inj} (hle : ρ.le ρ') {a b : Option Nat} (h : MRel ρ a b) : MRel ρ' a b := by
  cases a <;> cases b <;> first | exact h | (obtain ⟨m, h1, h2⟩ := h; exact ⟨m, hle _ _ h1, h2⟩)

def BRel (E : Env) (ρ : Inj) (w : World) (i : Nat) (own : Bool) : Blk → Prop
  | .cells cs t => ∃ m c t' fr, ρ i = some m ∧ w.heap[m.blk]? = some (.cells c t' fr) ∧ (∀ j v, cs[j]? = some v → ∃ v', c[m.off + j]? = some v' ∧ VRel ρ v v') ∧
      (∀ ti, get E.types t = some ti → ti.size = m.sz) ∧ (own = true → c.size = m.tot ∧ m.off + cs.length ≤ m.tot ∧ ∀ j, j < m.tot → ¬ (fr.1 ≤ j ∧ j < fr.2))
  | .map es cl => ∃ m es', ρ i = some m ∧ w.heap[m.blk]? = some (.map es' cl) ∧ ERel ρ es es'.toList
  | .strIter s pos => ∃ m, ρ i = some m ∧ m.off = 0 ∧ w.heap[m.blk]? = some (.stringIter s pos)
  | .mapIter mm since seen stepped => ∃ m mm' seen', ρ i = some m ∧ m.off = 0 ∧ w.heap[m.blk]? = some (.mapIter mm' since seen' stepped) ∧ seen'.toList = seen ∧ MRel ρ mm mm'
theorem BRel.img {E : Env} {ρ : Inj} {w : World} {i : Nat} {own : Bool} {b : Blk} (h : BRel E ρ w i own b) : ∃ m, ρ i = some m ∧ m.blk < w.heap.size := by
  cases b with
  | cells cs t => obtain ⟨m, c, t', fr, h1, h2, _⟩ := h; exact ⟨m, h1, (Array.getElem?_eq_some_iff.1 h2).1⟩
  | map es cl => obtain ⟨m, es', h1, h2, _⟩ := h; exact ⟨m, h1, (Array.getElem?_eq_some_iff.1 h2).1⟩
  | strIter s pos => obtain ⟨m, h1, _, h2⟩ := h; exact ⟨m, h1, (Array.getElem?_eq_some_iff.1 h2).1⟩
  | mapIter a b c d => obtain ⟨m, mm', s', h1, _, h2, _⟩ := h; exact ⟨m, h1, (Array.getElem?_eq_some_iff.1 h2).1⟩
/-- What is told of a block hangs on its image's block alone. -/
theorem BRel.keep {E : Env} {ρ ρ' : Inj} {w w' : World} {i : Nat} {own : Bool} {b : Blk} (hle : ρ.le ρ') (hw : ∀ m, ρ i = some m → w'.heap[m.blk]? = w.heap[m.blk]?) (h : BRel E ρ w i own b) : BRel E ρ' w' i own b := by
  cases b with
  | cells cs t =>
    obtain ⟨m, c, t', fr, h1, h2, h3, h4, h5⟩ := h
    exact ⟨m, c, t', fr, hle _ _ h1, (hw m h1).trans h2, fun j v hv => let ⟨v', a, b⟩ := h3 j v hv; ⟨v', a, b.mono hle⟩, h4, h5⟩
  | map es cl => obtain ⟨m, es', h1, h2, h3⟩ := h; exact ⟨m, es', hle _ _ h1, (hw m h1).trans h2, h3.mono hle⟩
  | strIter s pos => obtain ⟨m, h1, h3, h2⟩ := h; exact ⟨m, hle _ _ h1, h3, (hw m h1).trans h2⟩
  | mapIter a b c d => obtain ⟨m, mm', s', h1, h3, h2, h4, h5⟩ := h; exact ⟨m, mm', s', hle _ _ h1, h3, (hw m h1).trans h2, h4, h5.mono hle⟩
theorem BRel.read {E : Env} {ρ : Inj} {w : World} {i : Nat} {own : Bool} {b : Blk} (h : BRel E ρ w i own b) : BRel E ρ w i false b := by
  cases b with
  | cells cs t => obtain ⟨m, c, t', fr, h1, h2, h3, h4, h5⟩ := h; exact ⟨m, c, t', fr, h1, h2, h3, h4, by simp⟩
  | map es cl => exact h
  | strIter s pos => exact h
  | mapIter a b c d => exact h

/-- A heap's, told by what it has at each number. -/
structure HRel (E : Env) (ρ : Inj) (h : Nat → Option (Bool × Blk)) (w : World) : Prop where
  blk : ∀ i o b, h i = some (o, b) → BRel E ρ w i o b
  inj : ∀ i j b e mi mj, h i = some (true, b) → h j = some e → i ≠ j → ρ i = some mi → ρ j = some mj → mj.blk ≠ mi.blk
theorem HRel.sub {E : Env} {ρ : Inj} {h h' : Nat → Option (Bool × Blk)} {w : World} (H : HRel E ρ h w) (hs : ∀ i e, h' i = some e → h i = some e) : HRel E ρ h' w :=
  ⟨fun i o b e => H.blk i o b (hs i _ e), fun i j b e mi mj hi hj => H.inj i j b e mi mj (hs i _ hi) (hs j _ hj)⟩

/-- The program's tables are the program's. -/
structure Env.Ok (E : Env) : Prop where
  types : ∀ t i, get E.types t = some i → tiOf E.P t = some i
  zeros : ∀ t i z, get E.types t = some i → i.zero = some z → flat z = true ∧ z.cells.toList.length = i.size
  funcs : ∀ f fn, get E.funcs f = some fn → E.P.funcs[f]? = some fn ∧ (fn.name == "runtime.NumGoroutine") = false
  mixed : E.P.follows .mixedOrders = true

/-- What a stretch of a run leaves of what was. -/
structure Ext (ρ ρ' : Inj) (st st' : St) (w w' : World) : Prop where
  le : ρ.le ρ'
  next : st.next ≤ st'.next
  new : ∀ i m, ρ' i = some m → ρ i = none → st.next ≤ i ∧ i < st'.next
  acq : ∀ i m, ρ' i = some m → ρ i = none → w.heap.size ≤ m.blk ∨ ∃ j mj, j ∈ st'.log ∧ ρ j = some mj ∧ mj.blk = m.blk
  log : ∀ i, i ∈ st.log → (ρ i).isSome → i ∈ st'.log
  frame : ∀ r, r < w.heap.size → (∀ j mj, j ∈ st'.log → ρ j = some mj → mj.blk ≠ r) → w'.heap[r]? = w.heap[r]?
  size : w.heap.size ≤ w'.heap.size
  own : ∀ i, i ∈ st'.log → i ∉ st.log → (ρ i).isSome → ∃ b, find st.heap i = some (true, b)
  own' : ∀ i b, (ρ i).isSome → find st'.heap i = some (true, b) → ∃ b', find st.heap i = some (true, b')
  os : w'.os = w.os
  tape : w'.tape = w.tape
  output : w'.output = w.output
theorem Ext.refl (ρ : Inj) (st : St) (w : World) : Ext ρ ρ st st w w where
  le := Inj.le.refl ρ
  next := Nat.le_refl _
  new := fun i m h h' => by rw [h] at h'; cases h'
  acq := fun i m h h' => by rw [h] at h'; cases h'
  log := fun _ h _ => h
  frame := fun _ _ _ => rfl
  size := Nat.le_refl _
  own := fun i h h' => absurd h h'
  own' := fun i b _ h => ⟨b, h⟩
  os := rfl
  tape := rfl
  output := rfl
theorem Ext.trans {ρ ρ1 ρ2 : Inj} {st st1 st2 : St} {w w1 w2 : World} (a : Ext ρ ρ1 st st1 w w1) (b : Ext ρ1 ρ2 st1 st2 w1 w2) : Ext ρ ρ2 st st2 w w2 where
  le := a.le.trans b.le
  next := Nat.le_trans a.next b.next
  new := fun i m h h' => by
    cases h1 : ρ1 i with
    | none => have := b.new i m h h1; exact ⟨Nat.le_trans a.next this.1, this.2⟩
    | some m1 => have := a.new i m1 h1 h'; exact ⟨this.1, Nat.lt_of_lt_of_le this.2 b.next⟩
  acq := fun i m h h' => by
    cases h1 : ρ1 i with
    | some m1 =>
      have e := b.le i m1 h1
      rw [h] at e; cases e
      rcases a.acq i m h1 h' with h2 | ⟨j, mj, hj, h3, h4⟩
      · exact .inl h2
      · exact .inr ⟨j, mj, b.log j hj (by rw [a.le j mj h3]; rfl), h3, h4⟩
    | none =>
      rcases b.acq i m h h1 with h2 | ⟨j, mj, hj, h3, h4⟩
      · exact .inl (Nat.le_trans a.size h2)
      · cases h5 : ρ j with
        | some mj' => have e := a.le j mj' h5; rw [h3] at e; cases e; exact .inr ⟨j, mj, hj, h5, h4⟩
        | none =>
          rcases a.acq j mj h3 h5 with h6 | ⟨k, mk, hk, h7, h8⟩
          · exact .inl (h4 ▸ h6)
          · exact .inr ⟨k, mk, b.log k hk (by rw [a.le k mk h7]; rfl), h7, h8.trans h4⟩
  log := fun i h h' => b.log i (a.log i h h') (by
    obtain ⟨m, hm⟩ := Option.isSome_iff_exists.1 h'
    rw [a.le i m hm]; rfl)
  frame := fun r hr hn => by
    rw [b.frame r (Nat.lt_of_lt_of_le hr a.size) ?_, a.frame r hr ?_]
    · exact fun j mj hj h => hn j mj (b.log j hj (by rw [a.le j mj h]; rfl)) h
    · intro j mj hj h e
      cases h5 : ρ j with
      | some mj' => have e' := a.le j mj' h5; rw [h] at e'; cases e'; exact hn j mj hj h5 e
      | none =>
        rcases a.acq j mj h h5 with h6 | ⟨k, mk, hk, h7, h8⟩
        · omega
        · exact hn k mk (b.log k hk (by rw [a.le k mk h7]; rfl)) h7 (h8.trans e)
  size := Nat.le_trans a.size b.size
  own := fun i h h' hs => by
    obtain ⟨m, hm⟩ := Option.isSome_iff_exists.1 hs
    have hs1 : (ρ1 i).isSome := by rw [a.le i m hm]; rfl
    by_cases h1 : i ∈ st1.log
    · exact a.own i h1 h' hs
    · obtain ⟨b', hb⟩ := b.own i h h1 hs1
      exact a.own' i b' hs hb
  own' := fun i c hs h => by
    obtain ⟨m, hm⟩ := Option.isSome_iff_exists.1 hs
    obtain ⟨b', hb⟩ := b.own' i c (by rw [a.le i m hm]; rfl) h
    exact a.own' i b' hs hb
  os := b.os.trans a.os
  tape := b.tape.trans a.tape
  output := b.output.trans a.output

/-- Numbers from n on are free. -/
def Fresh (ρ : Inj) (n : Nat) : Prop := ∀ i, n ≤ i → ρ i = none
theorem Fresh.ext {ρ ρ' : Inj} {st st' : St} {w w' : World} (h : Fresh ρ st.next) (e : Ext ρ ρ' st st' w w') : Fresh ρ' st'.next := fun i hi => by
  cases h' : ρ' i with
  | none => rfl
  | some m =>
    have := e.new i m h' (h i (Nat.le_trans e.next hi))
    omega
def Globs (E : Env) (ρ : Inj) : Prop := ∀ g, g < E.ng → ∃ m, ρ g = some m ∧ m.blk = g ∧ m.off = 0
theorem Globs.mono {E : Env} {ρ ρ' : Inj} (hle : ρ.le ρ') (h : Globs E ρ) : Globs E ρ' := fun g hg => let ⟨m, a, b⟩ := h g hg; ⟨m, hle _ _ a, b⟩

/-- What is known of operations is so. -/
def OrcOk (E : Env) (ρ : Inj) : Prop :=
  ∀ op f, E.orc op = some f → ∀ vs v, f vs = some v → ∀ ρ' : Inj, ρ.le ρ' → ∀ (o : Oper) (ev : Operand → Value), o.op = op → LRel ρ' vs (op.operands.toList.map ev) →
    ∀ w : World, ∃ v', (execOp ev o).run E.P w = .ok (.value v') w ∧ VRel ρ' v v'
theorem OrcOk.mono {E : Env} {ρ ρ' : Inj} (hle : ρ.le ρ') (h : OrcOk E ρ) : OrcOk E ρ' := fun op f hf vs v hv ρ2 h2 => h op f hf vs v hv ρ2 (hle.trans h2)
theorem OrcOk.none {E : Env} (ρ : Inj) (h : ∀ op, E.orc op = Option.none) : OrcOk E ρ := fun op f hf => by rw [h] at hf; cases hf
/-- All that a stretch of a run needs of the state. -/
structure SRel (E : Env) (ρ : Inj) (st : St) (w : World) : Prop where
  heap : HRel E ρ (find st.heap) w
  fresh : Fresh ρ st.next
  globs : Globs E ρ
  orc : OrcOk E ρ
end Go.Am
