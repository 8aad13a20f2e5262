/- What the model's run of an operation comes to, operation by operation: values, variables, structs, slices. -/
import Derived.Test.YtbhiilfifandhaaAm3
set_option linter.unusedVariables false
set_option linter.unusedSimpArgs false
set_option linter.unusedSectionVars false
namespace Go.Am

/-- An operand's value, in the machine and in the model. -/
def EvR (E : Env) (ρ : Inj) (tmps : List Value) (a : Act) (x : Operand) : Prop := ∀ v, eval E tmps x = some v → VRel ρ v (a.eval x)
theorem evalL_rel {E : Env} {ρ : Inj} {tmps : List Value} {a : Act} (xs : List Operand) (h : ∀ x, x ∈ xs → EvR E ρ tmps a x) {vs : List Value} (e : evalL E tmps xs = some vs) :
    LRel ρ vs (xs.map a.eval) := by
  induction xs generalizing vs with
  | nil => simp only [evalL, Option.some.injEq] at e; subst e; exact LRel.nil ρ
  | cons x r ih =>
    simp only [evalL] at e
    split at e
    · rename_i v ws h1 h2
      cases e
      exact (ih (fun y hy => h y (by simp [hy])) h2).cons (h x (by simp) v h1)
    · cases e
/-- Parts of a struct. -/
def PRel (ρ : Inj) (ps ps' : List (Nat × Value)) : Prop := ps.length = ps'.length ∧ ∀ (j : Nat) p p', ps[j]? = some p → ps'[j]? = some p' → p.1 = p'.1 ∧ VRel ρ p.2 p'.2
theorem PRel.nil_inv {ρ : Inj} {ps : List (Nat × Value)} (h : PRel ρ [] ps) : ps = [] := by
  cases ps with
  | nil => rfl
  | cons a r => simp [PRel] at h
theorem PRel.cons_inv {ρ : Inj} {i : Nat} {v : Value} {ps qs : List (Nat × Value)} (h : PRel ρ ((i, v) :: ps) qs) : ∃ v' ps', qs = (i, v') :: ps' ∧ VRel ρ v v' ∧ PRel ρ ps ps' := by
  cases qs with
  | nil => simp [PRel] at h
  | cons p' ps' =>
    obtain ⟨i', v'⟩ := p'
    obtain ⟨h1, h2⟩ := h.2 0 _ _ rfl rfl
    simp only at h1 h2
    subst h1
    exact ⟨v', ps', rfl, h2, by simpa using h.1, fun j a a' ha ha' => h.2 (j + 1) a a' (by simpa using ha) (by simpa using ha')⟩
theorem evalP_rel {E : Env} {ρ : Inj} {tmps : List Value} {a : Act} (xs : List (Nat × Operand)) (h : ∀ p, p ∈ xs → EvR E ρ tmps a p.2) {vs : List (Nat × Value)} (e : evalP E tmps xs = some vs) :
    PRel ρ vs (xs.map fun p => (p.1, a.eval p.2)) := by
  induction xs generalizing vs with
  | nil => simp only [evalP, Option.some.injEq] at e; subst e; exact ⟨rfl, by simp⟩
  | cons x r ih =>
    obtain ⟨i, x⟩ := x
    simp only [evalP] at e
    split at e
    · rename_i v ws h1 h2
      cases e
      have hr := ih (fun y hy => h y (by simp [hy])) h2
      refine ⟨by simpa using hr.1, fun j p p' hp hp' => ?_⟩
      cases j with
      | zero => simp at hp hp'; subst hp; subst hp'; exact ⟨rfl, h (i, x) (by simp) v h1⟩
      | succ j => exact hr.2 j p p' (by simpa using hp) (by simpa using hp')
    · cases e

/-! ### Cells -/
theorem LRel.splice {ρ : Inj} {a a' b b' : List Value} (h : LRel ρ a a') (h' : LRel ρ b b') {n : Nat} (hn : n + b.length ≤ a.length) : LRel ρ (Am.splice a n b) (Am.splice a' n b') := by
  have hn' : n + b'.length ≤ a'.length := by rw [← h.1, ← h'.1]; exact hn
  refine ⟨by rw [splice_length _ _ _ hn, splice_length _ _ _ hn', h.1], fun j v v' hv hv' => ?_⟩
  rw [splice_get _ _ _ _ hn] at hv
  rw [splice_get _ _ _ _ hn', ← h'.1] at hv'
  split at hv
  · rename_i hj; rw [if_pos hj] at hv'; exact h'.2 _ v v' hv hv'
  · rename_i hj; rw [if_neg hj] at hv'; exact h.2 _ v v' hv hv'
theorem fold_splice (vs : List Value) : ∀ (cells : Array Value) (off k : Nat), off + k + vs.length ≤ cells.size →
    (vs.zipIdx k).foldl (fun cs (p : Value × Nat) => cs.setIfInBounds (off + p.2) p.1) cells = ⟨splice cells.toList (off + k) vs⟩ := by
  induction vs with
  | nil => intro cells off k _; simp [splice_nil]
  | cons v vs ih =>
    intro cells off k h
    simp only [List.zipIdx_cons, List.foldl_cons]
    rw [ih _ off (k + 1) (by simp at h ⊢; omega), splice_cons _ _ _ _ (by simp at h ⊢; omega)]
    simp only [Array.toList_setIfInBounds]
    rfl
/-- The model's way to lay parts into cells. -/
theorem fill_eq (place : Nat → Option (Nat × Nat)) (ps : List (Nat × Value)) : ∀ (cells : List Value) {r : List Value}, fillL place cells ps = some r → Instr.fill place ⟨cells⟩ ps = some ⟨r⟩ := by
  induction ps with
  | nil => intro cells r h; simp only [fillL, Option.some.injEq] at h; subst h; rfl
  | cons p ps ih =>
    obtain ⟨i, v⟩ := p
    intro cells r h
    simp only [fillL] at h
    cases hp : place i with
    | none => simp [hp] at h
    | some x =>
      obtain ⟨off, size⟩ := x
      rw [hp] at h
      simp only at h
      split at h
      · rename_i hc
        simp only [Bool.and_eq_true] at hc
        have h1 : v.cells.toList.length = size := by simpa using hc.1
        have h2 : off + size ≤ cells.length := by simpa using hc.2
        unfold Instr.fill
        rw [hp]
        have hsz : v.cells.size = size := by simpa using h1
        simp only [hsz, ne_eq, not_true_eq_false, decide_false, Bool.false_or, List.size_toArray]
        rw [if_neg (by simpa using h2)]
        have := fold_splice v.cells.toList ⟨cells⟩ off 0 (by simp; omega)
        rw [← Array.foldl_toList, Array.toList_zipIdx]
        rw [show (List.foldl (fun cs x => match x with | (c, j) => cs.setIfInBounds (off + j) c) (⟨cells⟩ : Array Value) (v.cells.toList.zipIdx 0)) = ⟨splice cells off v.cells.toList⟩ from this]
        exact ih _ h
      · cases h
theorem fill_rel {ρ : Inj} (place : Nat → Option (Nat × Nat)) (ps : List (Nat × Value)) : ∀ {ps' : List (Nat × Value)} {cells cells' r : List Value}, PRel ρ ps ps' → LRel ρ cells cells' → fillL place cells ps = some r →
    ∃ r', fillL place cells' ps' = some r' ∧ LRel ρ r r' := by
  induction ps with
  | nil =>
    intro ps' cells cells' r hp hc h
    rw [hp.nil_inv]
    simp only [fillL, Option.some.injEq] at h
    subst h
    exact ⟨cells', rfl, hc⟩
  | cons p ps ih =>
    obtain ⟨i, v⟩ := p
    intro ps' cells cells' r hp hc h
    obtain ⟨v', qs, rfl, hv, hq⟩ := hp.cons_inv
    simp only [fillL] at h
    cases hpl : place i with
    | none => simp [hpl] at h
    | some x =>
      obtain ⟨off, size⟩ := x
      rw [hpl] at h
      simp only at h
      split at h
      · rename_i hcond
        simp only [Bool.and_eq_true] at hcond
        have h1 : v.cells.toList.length = size := by simpa using hcond.1
        have h2 : off + size ≤ cells.length := by simpa using hcond.2
        have hcs := hv.cells
        obtain ⟨r', hr, hrel⟩ := ih hq (hc.splice hcs (by omega)) h
        refine ⟨r', ?_, hrel⟩
        simp only [fillL, hpl]
        rw [if_pos (by
          simp only [Bool.and_eq_true, Nat.beq_eq, Nat.ble_eq]
          exact ⟨by rw [← hcs.1]; exact h1, by rw [← hc.1]; exact h2⟩)]
        exact hr
      · cases h
theorem zeros_length (z : List Value) (n : Nat) : (zeros z n).length = n * z.length := by
  induction n with
  | zero => simp [zeros]
  | succ n ih => simp [zeros, ih, Nat.succ_mul, Nat.add_comm]
theorem zeros_get (z : List Value) (n i : Nat) (h : i < n * z.length) : (zeros z n)[i]? = z[i % z.length]? := by
  induction n generalizing i with
  | zero => simp at h
  | succ n ih =>
    simp only [zeros]
    by_cases hi : i < z.length
    · rw [List.getElem?_append_left hi, Nat.mod_eq_of_lt hi]
    · have hm : i % z.length = (i - z.length) % z.length := Nat.mod_eq_sub_mod (by omega)
      rw [List.getElem?_append_right (by omega), ih (i - z.length) (by rw [Nat.add_mul, Nat.one_mul] at h; omega), hm]
theorem zeros_eq (z : Array Value) (n k : Nat) (hk : z.toList.length = k) : ((Array.range (n * k)).map (z[· % z.size]!)) = ⟨zeros z.toList n⟩ := by
  apply Array.ext'
  apply List.ext_getElem?
  intro i
  have hz : z.size = k := by simpa using hk
  by_cases hi : i < n * k
  · have hk0 : 0 < k := Nat.pos_of_ne_zero (fun e => by subst e; simp at hi)
    have hm : i % k < k := Nat.mod_lt _ hk0
    rw [zeros_get _ _ _ (by rw [hk]; exact hi)]
    have : i % z.size < z.size := by rw [hz]; exact hm
    simp [Array.getElem?_range, hi, hk, getElem!_pos, this, hz, hm]
  · rw [List.getElem?_eq_none (by simp; omega), List.getElem?_eq_none (by rw [zeros_length, hk]; omega)]
theorem flatL_zeros {z : List Value} (h : flatL z = true) (n : Nat) : flatL (zeros z n) = true := by
  induction n with
  | zero => rfl
  | succ n ih =>
    rw [flatL_iff] at h ih ⊢
    intro v hv
    rcases List.mem_append.1 hv with h' | h'
    · exact h v h'
    · exact ih v h'
theorem flat_cells {z : Value} (h : flat z = true) : flatL z.cells.toList = true := by
  by_cases ha : ∃ cs, z = .agg cs
  · obtain ⟨⟨cs⟩, rfl⟩ := ha
    show flatL cs = true
    simpa [flat] using h
  · have : z.cells = #[z] := by
      cases z <;> first | rfl | exact absurd ⟨_, rfl⟩ ha
    rw [this]
    simp [flatL, h]

/-! ### New blocks of cells -/
def szOf (E : Env) (t : TypeId) : Nat := match get E.types t with | some ti => ti.size | none => 0
theorem new_cells_fr {E : Env} {ρ : Inj} {st : St} {w : World} (hS : SRel E ρ st w) (cs : List Value) (t t' : TypeId) (c : Array Value) (fr : Nat × Nat)
    (hc : ∀ (j : Nat) v, cs[j]? = some v → ∃ v', c[j]? = some v' ∧ VRel ρ v v') (hfr : ∀ j, j < c.size → ¬ (fr.1 ≤ j ∧ j < fr.2)) :
    ∃ ρ' m, ρ' st.next = some m ∧ m.blk = w.heap.size ∧ m.off = 0 ∧ m.tot = c.size ∧ m.sz = szOf E t ∧ HRel E ρ' (find (st.new (.cells cs t)).heap) (w.alloc (.cells c t' fr)) ∧ Ext ρ ρ' st (st.new (.cells cs t)) w (w.alloc (.cells c t' fr)) := by
  have hle := Inj.upd_le ⟨w.heap.size, 0, c.size, szOf E t, undef⟩ (hS.fresh st.next (Nat.le_refl _))
  obtain ⟨h1, h2⟩ := new_rel hS (.cells cs t) ⟨w.heap.size, 0, c.size, szOf E t, undef⟩ (.cells c t' fr) rfl
    ⟨_, c, t', fr, Inj.upd_same _ _ _, heap_alloc_new w _, fun j v hv => by
      obtain ⟨v', e, r⟩ := hc j v hv
      exact ⟨v', by simpa using e, r.mono hle⟩, fun ti hti => by simp [szOf, hti], fun _ => ⟨rfl, by
      rcases Nat.eq_zero_or_pos cs.length with h0 | h0
      · simp [h0]
      · obtain ⟨v', e, _⟩ := hc (cs.length - 1) _ (List.getElem?_eq_getElem (by omega))
        have := (Array.getElem?_eq_some_iff.1 e).1
        show 0 + cs.length ≤ c.size
        omega, hfr⟩⟩
  exact ⟨_, _, Inj.upd_same _ _ _, rfl, rfl, rfl, rfl, h1, h2⟩
theorem new_cells {E : Env} {ρ : Inj} {st : St} {w : World} (hS : SRel E ρ st w) (cs : List Value) (t t' : TypeId) (c : Array Value)
    (hc : ∀ (j : Nat) v, cs[j]? = some v → ∃ v', c[j]? = some v' ∧ VRel ρ v v') :
    ∃ ρ' m, ρ' st.next = some m ∧ m.blk = w.heap.size ∧ m.off = 0 ∧ m.tot = c.size ∧ m.sz = szOf E t ∧ HRel E ρ' (find (st.new (.cells cs t)).heap) (w.alloc (.cells c t')) ∧ Ext ρ ρ' st (st.new (.cells cs t)) w (w.alloc (.cells c t')) :=
  new_cells_fr hS cs t t' c (0, 0) hc (fun j _ h => by simp at h)
theorem LRel.toArr {ρ : Inj} {cs : List Value} {c : Array Value} (h : LRel ρ cs c.toList) : ∀ (j : Nat) v, cs[j]? = some v → ∃ v', c[j]? = some v' ∧ VRel ρ v v' := fun j v hv => by
  obtain ⟨v', e, r⟩ := h.get hv
  exact ⟨v', by simpa using e, r⟩

section
variable {E : Env} (hE : E.Ok) {ρ : Inj} {st : St} {w : World} (hS : SRel E ρ st w) {tmps : List Value} {a : Act}
include hE hS

theorem alloc_sound {t : TypeId} {v : Value} {st' : St} (h : stepAlloc E t st = some (.val v st')) : Val E ρ st w ((Instr.alloc t true (.tuple #[])).run E.P w) v st' := by
  unfold stepAlloc at h
  split at h
  · rename_i z hz
    cases h
    obtain ⟨i, h1, h2, h3, h4⟩ := hE.zero hz
    obtain ⟨ρ', m, g1, g2, g3, g4, g5, g6, g7⟩ := new_cells hS z.cells.toList t t z.cells (LRel.flat (flat_cells h3)).toArr
    refine ⟨.pointer (some ⟨w.heap.size, 0, none⟩), _, ρ', ?_, ?_, g6, g7⟩
    · simp [Instr.alloc, am_zeroValue w h1 h2, newVar, newRow]
    · have := VRel.ptr (off := 0) g1
      rwa [g2, g3] at this
  · cases h
theorem box_sound {t : TypeId} {x : Operand} {v : Value} {st' : St} (hx : EvR E ρ tmps a x) (h : stepBox E tmps t x st = some (.val v st')) : Val E ρ st w ((Instr.box t (a.eval x)).run E.P w) v st' := by
  unfold stepBox at h
  split at h
  · rename_i u hu
    cases h
    obtain ⟨ρ', m, g1, g2, g3, g4, g5, g6, g7⟩ := new_cells hS u.cells.toList t t (a.eval x).cells (hx u hu).cells.toArr
    refine ⟨.pointer (some ⟨w.heap.size, 0, none⟩), _, ρ', ?_, ?_, g6, g7⟩
    · simp [Instr.box, newVar, newRow]
    · have := VRel.ptr (off := 0) g1
      rwa [g2, g3] at this
  · cases h
omit hS in
theorem places_run {fs : List Field} {pl : List (Nat × Nat)} (h : placesOf E (fs.map fun f => (f.offset, f.type)) = some pl) (acc : Array (Nat × Nat)) :
    (fs.foldlM (fun (bs : Array (Nat × Nat)) (f : Field) => do
      let x ← (do
        let n ← sizeOf f.type
        pure (f.offset, n) : Sem (Nat × Nat))
      pure (bs.push x)) acc).run E.P w = .ok (acc ++ pl.toArray) w := by
  induction fs generalizing pl acc with
  | nil => simp only [List.map_nil, placesOf, Option.some.injEq] at h; subst h; simp
  | cons f r ih =>
    simp only [List.map_cons, placesOf] at h
    split at h
    · rename_i n l h1 h2
      cases h
      obtain ⟨i, e1, e2⟩ := hE.size h1
      simp only [List.foldlM_cons, Sem.run_bind, am_sizeOf w e1, Result.andThen_ok, Sem.run_pure]
      rw [ih h2]
      simp [e2]
    · cases h
end
end Go.Am
