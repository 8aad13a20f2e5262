/- What the model's run of an operation comes to, out of what the machine's step says: tables, memory, new blocks. -/
import Derived.Test.YtbhiilfifandhaaAm2
import Derived.Laws.Cells
set_option linter.unusedVariables false
set_option linter.unusedSimpArgs false
namespace Go.Am

/-! ### Tables -/
section
variable {E : Env} (hE : E.Ok)
include hE
theorem Env.Ok.ti {t : TypeId} {ti : TI} (h : get E.types t = some ti) : ∃ i d, E.P.info? t = some i ∧ E.P.underlying t = some d ∧ ti = ⟨kdOf d, i.size, i.bytes, i.zero⟩ := by
  have := hE.types t ti h
  unfold tiOf at this
  split at this
  · rename_i i d h1 h2; exact ⟨i, d, h1, h2, by simpa using this.symm⟩
  · cases this
theorem Env.Ok.kd {t : TypeId} {k : Kd} (h : E.kd t = some k) : ∃ d, E.P.underlying t = some d ∧ kdOf d = k := by
  unfold Env.kd at h
  obtain ⟨ti, h1, h2⟩ := Option.map_eq_some_iff.1 h
  obtain ⟨i, d, a, b, rfl⟩ := hE.ti h1
  exact ⟨d, b, h2⟩
theorem Env.Ok.size {t : TypeId} {n : Nat} (h : E.size t = some n) : ∃ i, E.P.info? t = some i ∧ i.size = n := by
  unfold Env.size at h
  obtain ⟨ti, h1, h2⟩ := Option.map_eq_some_iff.1 h
  obtain ⟨i, d, a, b, rfl⟩ := hE.ti h1
  exact ⟨i, a, h2⟩
theorem Env.Ok.zero {t : TypeId} {z : Value} (h : E.zero t = some z) : ∃ i, E.P.info? t = some i ∧ i.zero = some z ∧ flat z = true ∧ z.cells.toList.length = i.size := by
  unfold Env.zero at h
  obtain ⟨ti, h1, h2⟩ := Option.bind_eq_some_iff.1 h
  have hz := hE.zeros t ti z h1 h2
  obtain ⟨i, d, a, b, rfl⟩ := hE.ti h1
  exact ⟨i, a, h2, hz⟩
end
theorem kdOf_slice {d : TypeDesc} {e : TypeId} (h : kdOf d = .slice e) : d = .slice e := by cases d <;> simp_all [kdOf]
theorem kdOf_array {d : TypeDesc} {n : Nat} {e : TypeId} (h : kdOf d = .array n e) : d = .array n e := by cases d <;> simp_all [kdOf]
theorem kdOf_map {d : TypeDesc} {k e : TypeId} (h : kdOf d = .map k e) : d = .map k e := by cases d <;> simp_all [kdOf]
theorem kdOf_int {d : TypeDesc} {k : IntKind} (h : kdOf d = .int k) : d = .int k := by cases d <;> simp_all [kdOf]
theorem kdOf_string {d : TypeDesc} (h : kdOf d = .string) : d = .string := by cases d <;> simp_all [kdOf]
theorem kdOf_struct {d : TypeDesc} {fs : List (Nat × TypeId)} (h : kdOf d = .struct fs) : ∃ gs, d = .struct gs ∧ fs = gs.toList.map fun f => (f.offset, f.type) := by
  cases d <;> simp_all [kdOf]

section
variable {P : Program} {t : TypeId} (w : World)
theorem am_underlying {d : TypeDesc} (h : P.underlying t = some d) : (underlying t).run P w = .ok d w := by
  simp [underlying, h]
theorem am_typeInfo {i : TypeInfo} (h : P.info? t = some i) : (typeInfo t).run P w = .ok i w := by
  simp [typeInfo, h]
theorem am_sizeOf {i : TypeInfo} (h : P.info? t = some i) : (sizeOf t).run P w = .ok i.size w := by
  simp [sizeOf, am_typeInfo w h]
theorem am_zeroValue {i : TypeInfo} {z : Value} (h : P.info? t = some i) (hz : i.zero = some z) : (zeroValue t).run P w = .ok z w := by
  simp [zeroValue, am_typeInfo w h, hz]
theorem am_isAgg {d : TypeDesc} (h : P.underlying t = some d) : (isAgg t).run P w = .ok (kdOf d).agg w := by
  cases d <;> simp [isAgg, am_underlying w h, kdOf, Kd.agg]
end

theorem pureRun_run {P : Program} {α : Type} (s : Sem α) {a : α} (h : pureRun P s = some a) (w : World) : s.run P w = .ok a w := by
  induction s with
  | pure b => simp only [pureRun, Option.some.injEq] at h; subst h; rfl
  | program k ih => exact ih P (by simpa [pureRun] using h)
  | _ => simp [pureRun] at h
theorem pureV_run {P : Program} {s : Sem Value} {a : Value} (h : pureV P s = some a) (w : World) : s.run P w = .ok a w ∧ flat a = true := by
  unfold pureV at h
  split at h
  · rename_i v hv
    split at h
    · rename_i hf; cases h; exact ⟨pureRun_run s hv w, hf⟩
    · cases h
  · cases h

/-! ### Memory -/
theorem add_none (b o j : Nat) : (⟨b, o, none⟩ : Addr).add j = ⟨b, o + j, none⟩ := by
  unfold Addr.add
  split
  · rename_i h; subst h; rfl
  · rfl
theorem slc_eq {cs : List Value} {off n : Nat} {r : List Value} (h : slc cs off n = some r) : off + n ≤ cs.length ∧ r = (cs.drop off).take n := by
  unfold slc at h
  split at h
  · rename_i hb; exact ⟨(ble_iff _ _).1 hb, by cases h; rfl⟩
  · cases h
theorem cellsAt_eq {h : Heap} {i : Nat} {o : Bool} {cs : List Value} {t : TypeId} (e : cellsAt h i = some (o, cs, t)) : find h i = some (o, .cells cs t) := by
  unfold cellsAt at e
  split at e
  · rename_i o' cs' t' hf; cases e; exact hf
  · cases e
theorem mapAt_eq {h : Heap} {i : Nat} {o : Bool} {es : List MapEntry} {c : Nat} (e : mapAt h i = some (o, es, c)) : find h i = some (o, .map es c) := by
  unfold mapAt at e
  split at e
  · rename_i o' cs' t' hf; cases e; exact hf
  · cases e
/-- The cells of a stretch of a block. -/
theorem load_cells {E : Env} {ρ : Inj} {h : Heap} {w : World} (H : HRel E ρ (find h) w) {a : Addr} {n : Nat} {cs : List Value} (e : loadCells h a n = some cs) :
    a.spot = none ∧ ∃ m, ρ a.block = some m ∧ ∃ cs', cs'.length = n ∧ LRel ρ cs cs' ∧ (Go.loadCells ⟨m.blk, m.off + a.off, none⟩ n).run E.P w = .ok cs'.toArray w ∧
      (n = 1 → ∀ v, cs = [v] → ∃ v', cs' = [v'] ∧ w.cell? ⟨m.blk, m.off + a.off, none⟩ = some v') ∧ (∀ j u, cs'[j]? = some u → w.cell? ⟨m.blk, m.off + a.off + j, none⟩ = some u) := by
  unfold loadCells at e
  split at e
  · cases e
  rename_i hs
  refine ⟨hs, ?_⟩
  split at e
  · rename_i o cs0 t hc
    obtain ⟨hle, rfl⟩ := slc_eq e
    obtain ⟨m, c, t', fr, h1, h2, h3, h4, h5⟩ := H.blk _ _ _ (cellsAt_eq hc)
    have hcell : ∀ j, j < n → ∃ v', c[m.off + a.off + j]? = some v' ∧ ∀ v, cs0[a.off + j]? = some v → VRel ρ v v' := by
      intro j hj
      have hlt : a.off + j < cs0.length := by omega
      obtain ⟨v', e1, e2⟩ := h3 (a.off + j) _ (List.getElem?_eq_getElem hlt)
      refine ⟨v', by rwa [show m.off + a.off + j = m.off + (a.off + j) by omega], fun v hv => ?_⟩
      rw [List.getElem?_eq_getElem hlt] at hv
      cases hv
      exact e2
    refine ⟨m, h1, (c.toList.drop (m.off + a.off)).take n, ?_, ?_, ?_, ?_, ?_⟩
    · rw [List.length_take, List.length_drop]
      rcases Nat.eq_zero_or_pos n with h0 | h0
      · omega
      · obtain ⟨v', e1, _⟩ := hcell (n - 1) (by omega)
        have := (Array.getElem?_eq_some_iff.1 e1).1
        simp only [Array.length_toList]
        omega
    · refine ⟨?_, ?_⟩
      · rw [List.length_take, List.length_drop, List.length_take, List.length_drop]
        rcases Nat.eq_zero_or_pos n with h0 | h0
        · omega
        · obtain ⟨v', e1, _⟩ := hcell (n - 1) (by omega)
          have := (Array.getElem?_eq_some_iff.1 e1).1
          simp only [Array.length_toList]
          omega
      · intro j v v' hv hv'
        rw [List.getElem?_take] at hv hv'
        split at hv
        · rename_i hj
          rw [if_pos hj, List.getElem?_drop] at hv'
          rw [List.getElem?_drop] at hv
          obtain ⟨u, e1, e2⟩ := hcell j hj
          rw [Array.getElem?_toList, e1] at hv'
          cases hv'
          exact e2 v hv
        · cases hv
    · have hlen : ((c.toList.drop (m.off + a.off)).take n).length = n := by
        rw [List.length_take, List.length_drop]
        rcases Nat.eq_zero_or_pos n with h0 | h0
        · omega
        · obtain ⟨v', e1, _⟩ := hcell (n - 1) (by omega)
          have := (Array.getElem?_eq_some_iff.1 e1).1
          simp only [Array.length_toList]
          omega
      have := run_loadCells_list (P := E.P) w ⟨m.blk, m.off + a.off, none⟩ ((c.toList.drop (m.off + a.off)).take n) (fun j v hv => by
        rw [add_none, cell_of_row w _ _ _ _ _ h2]
        rw [List.getElem?_take] at hv
        split at hv
        · rw [List.getElem?_drop, Array.getElem?_toList] at hv; exact hv
        · cases hv)
      rwa [hlen] at this
    · intro hn v hv
      obtain ⟨v', e1, _⟩ := hcell 0 (by omega)
      refine ⟨v', ?_, ?_⟩
      · subst hn
        have hlt := (Array.getElem?_eq_some_iff.1 e1).1
        have hlt' : m.off + a.off + 0 < c.toList.length := by simpa using hlt
        have hv' : c.toList[m.off + a.off + 0] = v' := by
          have := e1
          rw [← Array.getElem?_toList, List.getElem?_eq_getElem hlt'] at this
          simpa using this
        rw [show m.off + a.off = m.off + a.off + 0 from rfl, List.drop_eq_getElem_cons hlt', hv']
        simp
      · rw [cell_of_row w _ _ _ _ _ h2]; exact e1
    · intro j u hu
      rw [cell_of_row w _ _ _ _ _ h2]
      rw [List.getElem?_take] at hu
      split at hu
      · rw [List.getElem?_drop, Array.getElem?_toList] at hu; exact hu
      · cases hu
  · cases e

/-- A block put in another's place. -/
def _root_.Go.World.setBlk (w : World) (b : Nat) (o : Obj) : World := { w with heap := w.heap.setIfInBounds b o }
theorem setBlk_same {w : World} {b : Nat} {o : Obj} (h : b < w.heap.size) : (w.setBlk b o).heap[b]? = some o := by simp [World.setBlk, h]
theorem setBlk_other {w : World} {b r : Nat} {o : Obj} (h : r ≠ b) : (w.setBlk b o).heap[r]? = w.heap[r]? := by simp [World.setBlk, Array.getElem?_setIfInBounds, Ne.symm h]
@[simp] theorem setBlk_size (w : World) (b : Nat) (o : Obj) : (w.setBlk b o).heap.size = w.heap.size := by simp [World.setBlk]
theorem setCell_setBlk {w : World} {b o : Nat} {c : Array Value} {t : TypeId} {fr : Nat × Nat} (h : w.heap[b]? = some (.cells c t fr)) (v : Value) :
    w.setCell ⟨b, o, none⟩ v = w.setBlk b (.cells (c.setIfInBounds o v) t fr) := by
  have hb := (Array.getElem?_eq_some_iff.1 h).1
  unfold World.setCell World.setBlk
  congr 1
  apply Array.ext'
  apply List.ext_getElem?
  intro r
  simp only [Array.getElem?_toList, Array.getElem?_modify, Array.getElem?_setIfInBounds]
  by_cases hr : b = r
  · subst hr
    have h' := (Array.getElem?_eq_some_iff.1 h).2
    simp [hb, h']
  · simp [hr]
theorem setBlk_setBlk (w : World) (b : Nat) (o o' : Obj) : (w.setBlk b o).setBlk b o' = w.setBlk b o' := by
  unfold World.setBlk
  congr 1
  apply Array.ext'
  apply List.ext_getElem?
  intro r
  simp only [Array.getElem?_toList, Array.getElem?_setIfInBounds, Array.size_setIfInBounds]
  by_cases hr : b = r
  · simp [hr]
  · simp [hr]
theorem setBlk_id {w : World} {b : Nat} {o : Obj} (h : w.heap[b]? = some o) : w.setBlk b o = w := by
  have hb := (Array.getElem?_eq_some_iff.1 h).1
  have : w.heap.setIfInBounds b o = w.heap := by
    apply Array.ext'
    apply List.ext_getElem?
    intro r
    simp only [Array.getElem?_toList, Array.getElem?_setIfInBounds]
    by_cases hr : b = r
    · subst hr
      have h' := (Array.getElem?_eq_some_iff.1 h).2
      simp [hb, h']
    · simp [hr]
  unfold World.setBlk
  rw [this]

theorem splice_nil (cs : List Value) (n : Nat) : splice cs n [] = cs := by
  induction cs generalizing n with
  | nil => cases n <;> rfl
  | cons c r ih => cases n with
    | zero => rfl
    | succ n => simp [splice, ih]
theorem splice_get (cs : List Value) (n : Nat) (vs : List Value) (j : Nat) (h : n + vs.length ≤ cs.length) :
    (splice cs n vs)[j]? = if n ≤ j ∧ j < n + vs.length then vs[j - n]? else cs[j]? := by
  induction cs generalizing n vs j with
  | nil =>
    have : vs = [] := List.eq_nil_of_length_eq_zero (by have h_ := h; simp only [List.length_nil] at h_; omega)
    subst this
    rw [splice_nil, if_neg (by simp only [List.length_nil]; omega)]
  | cons c r ih =>
    cases n with
    | zero =>
      cases vs with
      | nil => rw [splice_nil, if_neg (by simp)]
      | cons v vs =>
        cases j with
        | zero => simp [splice]
        | succ j =>
          simp only [splice, List.getElem?_cons_succ]
          rw [ih 0 vs j (by simp at h ⊢; omega)]
          by_cases hj : j < vs.length
          · rw [if_pos ⟨by omega, by omega⟩, if_pos ⟨by omega, by simp; omega⟩]; simp
          · rw [if_neg (by omega), if_neg (by simp; omega)]
    | succ n =>
      cases j with
      | zero => simp [splice]
      | succ j =>
        simp only [splice, List.getElem?_cons_succ]
        rw [ih n vs j (by simp at h ⊢; omega)]
        by_cases hj : n ≤ j ∧ j < n + vs.length
        · rw [if_pos hj, if_pos ⟨by omega, by omega⟩, show j + 1 - (n + 1) = j - n by omega]
        · rw [if_neg hj, if_neg (by omega)]
theorem splice_length (cs : List Value) (n : Nat) (vs : List Value) (h : n + vs.length ≤ cs.length) : (splice cs n vs).length = cs.length := by
  induction cs generalizing n vs with
  | nil =>
    have : vs = [] := List.eq_nil_of_length_eq_zero (by have h_ := h; simp only [List.length_nil] at h_; omega)
    subst this
    rw [splice_nil]
  | cons c r ih =>
    cases n with
    | zero =>
      cases vs with
      | nil => rw [splice_nil]
      | cons v vs => simp only [splice, List.length_cons]; rw [ih 0 vs (by simp at h ⊢; omega)]
    | succ n => simp only [splice, List.length_cons]; rw [ih n vs (by simp at h ⊢; omega)]
theorem splice_cons (cs : List Value) (n : Nat) (v : Value) (vs : List Value) (h : n + (vs.length + 1) ≤ cs.length) : splice cs n (v :: vs) = splice (cs.set n v) (n + 1) vs := by
  apply List.ext_getElem?
  intro j
  rw [splice_get _ _ _ _ (by simpa using h), splice_get _ _ _ _ (by simp; omega)]
  by_cases h1 : j = n
  · subst h1
    rw [if_pos ⟨Nat.le_refl _, by simp⟩, if_neg (by omega), List.getElem?_set_self (by omega)]
    simp
  · by_cases h2 : n ≤ j ∧ j < n + (v :: vs).length
    · rw [if_pos h2, if_pos ⟨by omega, by simp at h2; omega⟩]
      obtain ⟨k, rfl⟩ : ∃ k, j = n + 1 + k := ⟨j - n - 1, by omega⟩
      simp [show n + 1 + k - n = k + 1 by omega, show n + 1 + k - (n + 1) = k by omega]
    · rw [if_neg h2, if_neg (by simp at h2; omega), List.getElem?_set_ne (Ne.symm h1)]

/-- The model's stores, one behind the other. -/
theorem run_storeCells {P : Program} (vs : List Value) : ∀ (w : World) (b o i : Nat) (c : Array Value) (t : TypeId) (fr : Nat × Nat), w.heap[b]? = some (.cells c t fr) → (∀ v, v ∈ vs → v.oneCell' = true) →
    o + i + vs.length ≤ c.size → (∀ j, j < c.size → ¬ (fr.1 ≤ j ∧ j < fr.2)) →
    (Go.storeCells ⟨b, o, none⟩ vs i).run P w = .ok () (w.setBlk b (.cells ⟨splice c.toList (o + i) vs⟩ t fr)) := by
  induction vs with
  | nil =>
    intro w b o i c t fr hb _ _ _
    rw [splice_nil]
    simp only [Go.storeCells, Sem.run_pure]
    rw [setBlk_id]
    exact hb
  | cons v vs ih =>
    intro w b o i c t fr hb hone hroom hfr
    have hlt : o + i < c.size := by simp at hroom; omega
    have hc : w.cell? ⟨b, o + i, none⟩ = some c[o + i] := by
      rw [cell_of_row w _ _ _ _ _ hb, Array.getElem?_eq_getElem hlt]
    have hf : w.frozen? ⟨b, o + i, none⟩ = false := by
      unfold World.frozen?
      simp only [hb]
      have := hfr (o + i) hlt
      simp only [Bool.and_eq_false_iff, decide_eq_false_iff_not]
      omega
    simp only [Go.storeCells, Sem.run_bind]
    rw [add_none, run_store P w _ v .plain (hone v (by simp)), hc]
    simp only [hf, Bool.false_eq_true, if_false, Result.andThen_ok]
    rw [setCell_setBlk hb]
    have hb' : (w.setBlk b (.cells (c.setIfInBounds (o + i) v) t fr)).heap[b]? = some (.cells (c.setIfInBounds (o + i) v) t fr) := setBlk_same (Array.getElem?_eq_some_iff.1 hb).1
    rw [ih _ b o (i + 1) _ t fr hb' (fun u hu => hone u (by simp [hu])) (by simp at hroom ⊢; omega) (by simpa using hfr), setBlk_setBlk]
    congr 3
    rw [splice_cons _ _ _ _ (by simp at hroom ⊢; omega)]
    simp only [Array.toList_setIfInBounds]
    rfl

/-! ### What a stretch does -/
/-- The model's run came to a value that stands to v, in a world that stands to st'. -/
def Val (E : Env) (ρ : Inj) (st : St) (w : World) (r : Result Value) (v : Value) (st' : St) : Prop :=
  ∃ v' w' ρ', r = .ok v' w' ∧ VRel ρ' v v' ∧ HRel E ρ' (find st'.heap) w' ∧ Ext ρ ρ' st st' w w'
def UnitTo (E : Env) (ρ : Inj) (st : St) (w : World) (r : Result Unit) (st' : St) : Prop :=
  ∃ w' ρ', r = .ok () w' ∧ HRel E ρ' (find st'.heap) w' ∧ Ext ρ ρ' st st' w w'
theorem Val.here {E : Env} {ρ : Inj} {st : St} {w : World} {r : Result Value} {v v' : Value} (hS : SRel E ρ st w) (hr : r = .ok v' w) (hv : VRel ρ v v') : Val E ρ st w r v st :=
  ⟨v', w, ρ, hr, hv, hS.heap, Ext.refl ρ st w⟩

def Inj.upd (ρ : Inj) (i : Nat) (m : Img) : Inj := fun j => if j = i then some m else ρ j
theorem Inj.upd_same (ρ : Inj) (i : Nat) (m : Img) : ρ.upd i m i = some m := by simp [Inj.upd]
theorem Inj.upd_le {ρ : Inj} {i : Nat} (m : Img) (h : ρ i = none) : ρ.le (ρ.upd i m) := fun j x hj => by
  unfold Inj.upd
  split
  · rename_i e; subst e; rw [h] at hj; cases hj
  · exact hj
theorem find_ne_fresh {E : Env} {ρ : Inj} {st : St} {w : World} (hS : SRel E ρ st w) {i : Nat} {e : Bool × Blk} (h : find st.heap i = some e) : i < st.next := by
  obtain ⟨o, b⟩ := e
  obtain ⟨m, hm, _⟩ := (hS.heap.blk i o b h).img
  rcases Nat.lt_or_ge i st.next with h' | h'
  · exact h'
  · rw [hS.fresh i h'] at hm; cases hm
/-- A new block. -/
theorem new_rel {E : Env} {ρ : Inj} {st : St} {w : World} (hS : SRel E ρ st w) (b : Blk) (m : Img) (o : Obj) (hm : m.blk = w.heap.size)
    (hb : BRel E (ρ.upd st.next m) (w.alloc o) st.next true b) :
    HRel E (ρ.upd st.next m) (find (st.new b).heap) (w.alloc o) ∧ Ext ρ (ρ.upd st.next m) st (st.new b) w (w.alloc o) := by
  have hfree := hS.fresh st.next (Nat.le_refl _)
  have hle := Inj.upd_le m hfree
  have hfind : ∀ i, find (st.new b).heap i = if st.next = i then some (true, b) else find st.heap i := fun i => find_cons _ _ _ _
  refine ⟨⟨fun i o' b' h => ?_, fun i j b' e mi mj hi hj hij h1 h2 => ?_⟩, ?_⟩
  · rw [hfind] at h
    by_cases hi : st.next = i
    · rw [if_pos hi] at h; cases h; subst hi; exact hb
    · rw [if_neg hi] at h
      refine (hS.heap.blk i o' b' h).keep hle (fun mi hmi => ?_)
      obtain ⟨m', hm', hlt⟩ := (hS.heap.blk i o' b' h).img
      rw [hmi] at hm'
      cases hm'
      exact heap_alloc_old w o _ hlt
  · rw [hfind] at hi hj
    have old : ∀ k e' mk, find st.heap k = some e' → (ρ.upd st.next m) k = some mk → mk.blk < w.heap.size := by
      intro k e' mk hk hmk
      obtain ⟨o', b'⟩ := e'
      obtain ⟨m', hm', hlt⟩ := (hS.heap.blk k o' b' hk).img
      have := hle k m' hm'
      rw [hmk] at this
      cases this
      exact hlt
    by_cases h3 : st.next = i
    · by_cases h4 : st.next = j
      · exact absurd (h3.symm.trans h4) hij
      · rw [if_neg h4] at hj
        subst h3
        rw [Inj.upd_same] at h1
        cases h1
        have := old j e mj hj h2
        omega
    · rw [if_neg h3] at hi
      by_cases h4 : st.next = j
      · subst h4
        rw [Inj.upd_same] at h2
        cases h2
        have := old i (true, b') mi hi h1
        omega
      · rw [if_neg h4] at hj
        have e1 : ρ i = some mi := by simpa [Inj.upd, Ne.symm h3] using h1
        have e2 : ρ j = some mj := by simpa [Inj.upd, Ne.symm h4] using h2
        exact hS.heap.inj i j b' e mi mj hi hj hij e1 e2
  · exact {
      le := hle
      next := Nat.le_succ _
      new := fun i mi h h' => by
        by_cases hi : i = st.next
        · subst hi; exact ⟨Nat.le_refl _, Nat.lt_succ_self _⟩
        · simp [Inj.upd, hi, h'] at h
      acq := fun i mi h h' => by
        by_cases hi : i = st.next
        · subst hi; rw [Inj.upd_same] at h; cases h; exact .inl (Nat.le_of_eq hm.symm)
        · simp [Inj.upd, hi, h'] at h
      log := fun i h _ => h
      frame := fun r hr _ => heap_alloc_old w o r hr
      size := by simp
      own := fun i h h' => absurd h h'
      own' := fun i b' hs h => by
        rw [hfind] at h
        by_cases hi : st.next = i
        · subst hi; rw [hfree] at hs; cases hs
        · rw [if_neg hi] at h; exact ⟨b', h⟩
      os := rfl
      tape := rfl
      output := rfl }
/-- A block of one's own, written. -/
theorem set_rel {E : Env} {ρ : Inj} {st : St} {w w' : World} (hS : SRel E ρ st w) {i : Nat} {b b' : Blk} {m : Img} (hi : find st.heap i = some (true, b)) (hm : ρ i = some m)
    (hb : BRel E ρ w' i true b') (hw : ∀ r, r ≠ m.blk → w'.heap[r]? = w.heap[r]?) (hz : w'.heap.size = w.heap.size) (ho : w'.os = w.os) (ht : w'.tape = w.tape) (hu : w'.output = w.output) :
    HRel E ρ (find (st.set i b').heap) w' ∧ Ext ρ ρ st (st.set i b') w w' := by
  have hfind : ∀ j, find (st.set i b').heap j = if j = i then some (true, b') else find st.heap j := fun j => by
    rw [St.set, find_repl]
    simp [hi]
  refine ⟨⟨fun j o c h => ?_, fun j k c e mj mk hj hk hjk h1 h2 => ?_⟩, ?_⟩
  · rw [hfind] at h
    by_cases hj : j = i
    · rw [if_pos hj] at h; cases h; subst hj; exact hb
    · rw [if_neg hj] at h
      refine (hS.heap.blk j o c h).keep (Inj.le.refl ρ) (fun mj hmj => hw _ (hS.heap.inj i j b (o, c) m mj hi h (Ne.symm hj) hm hmj))
  · rw [hfind] at hj hk
    have hj' : ∃ c', find st.heap j = some (true, c') := by
      by_cases h3 : j = i
      · subst h3; exact ⟨b, hi⟩
      · rw [if_neg h3] at hj; exact ⟨c, hj⟩
    have hk' : ∃ e', find st.heap k = some e' := by
      by_cases h3 : k = i
      · subst h3; exact ⟨_, hi⟩
      · rw [if_neg h3] at hk; exact ⟨e, hk⟩
    obtain ⟨c', hj'⟩ := hj'
    obtain ⟨e', hk'⟩ := hk'
    exact hS.heap.inj j k c' e' mj mk hj' hk' hjk h1 h2
  · exact {
      le := Inj.le.refl ρ
      next := Nat.le_refl _
      new := fun i m h h' => by rw [h] at h'; cases h'
      acq := fun i m h h' => by rw [h] at h'; cases h'
      log := fun j h _ => (mem_addTo _ _ _).2 (.inr h)
      frame := fun r hr hn => hw r (fun e => hn i m ((mem_addTo _ _ _).2 (.inl rfl)) hm e.symm)
      size := Nat.le_of_eq hz.symm
      own := fun j h h' _ => by
        rcases (mem_addTo _ _ _).1 h with rfl | h''
        · exact ⟨b, hi⟩
        · exact absurd h'' h'
      own' := fun j c _ h => by
        rw [hfind] at h
        by_cases hj : j = i
        · subst hj; exact ⟨b, hi⟩
        · rw [if_neg hj] at h; exact ⟨c, h⟩
      os := ho
      tape := ht
      output := hu }
end Go.Am
