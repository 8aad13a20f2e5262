/- What the model's run of an operation comes to, operation by operation: built-in functions. -/
import Derived.Test.YtbhiilfifandhaaAm10
import Derived.Deep.AppendSrc
set_option linter.unusedVariables false
set_option linter.unusedSimpArgs false
set_option linter.unusedSectionVars false
namespace Go.Am

/-- A block that is given up. -/
theorem kill_rel {E : Env} {ρ : Inj} {st : St} {w : World} (hS : SRel E ρ st w) {i : Nat} {b : Blk} (hi : find st.heap i = some (true, b)) : SRel E ρ (st.kill i) w ∧ Ext ρ ρ st (st.kill i) w w := by
  have hf : ∀ j, find (st.kill i).heap j = if j = i then none else find st.heap j := fun j => by
    simp only [St.kill, Am.kill]
    rw [find_filt]
    by_cases hj : j = i
    · subst hj; simp
    · have : Nat.beq j i = false := by rw [Bool.eq_false_iff]; simpa using hj
      simp [this, hj]
  refine ⟨⟨hS.heap.sub fun j e h => ?_, hS.fresh, hS.globs, hS.orc⟩, ?_⟩
  · rw [hf] at h
    split at h
    · cases h
    · exact h
  · exact {
      le := Inj.le.refl ρ
      next := Nat.le_refl _
      new := fun i m h h' => by rw [h] at h'; cases h'
      acq := fun i m h h' => by rw [h] at h'; cases h'
      log := fun j h _ => (mem_addTo _ _ _).2 (.inr h)
      frame := fun _ _ _ => rfl
      size := Nat.le_refl _
      own := fun j h h' _ => by
        rcases (mem_addTo _ _ _).1 h with rfl | h''
        · exact ⟨b, hi⟩
        · exact absurd h'' h'
      own' := fun j c _ h => by
        rw [hf] at h
        split at h
        · cases h
        · exact ⟨c, h⟩
      os := rfl
      tape := rfl
      output := rfl }
/-- A block that is given up, and its place taken. -/
theorem regrow_rel {E : Env} {ρ : Inj} {st : St} {w w' : World} (hS : SRel E ρ st w) {i : Nat} {b b' : Blk} {m m' : Img} (hi : find st.heap i = some (true, b)) (hm : ρ i = some m) (hmm : m'.blk = m.blk)
    (hb : BRel E (ρ.upd st.next m') w' st.next true b') (hw : ∀ r, r ≠ m.blk → w'.heap[r]? = w.heap[r]?) (hz : w'.heap.size = w.heap.size) (ho : w'.os = w.os) (ht : w'.tape = w.tape) (hu : w'.output = w.output) :
    HRel E (ρ.upd st.next m') (find ((st.kill i).new b').heap) w' ∧ Ext ρ (ρ.upd st.next m') st ((st.kill i).new b') w w' := by
  have hfree := hS.fresh st.next (Nat.le_refl _)
  have hle := Inj.upd_le m' hfree
  obtain ⟨hK, eK⟩ := kill_rel hS hi
  have hin : i ≠ st.next := fun e => by rw [e, hfree] at hm; cases hm
  have hf : ∀ j, find ((st.kill i).new b').heap j = if st.next = j then some (true, b') else if j = i then none else find st.heap j := fun j => by
    rw [show find ((st.kill i).new b').heap j = if st.next = j then some (true, b') else find (st.kill i).heap j from find_cons _ _ _ _]
    simp only [St.kill, Am.kill]
    rw [find_filt]
    by_cases hj : j = i
    · subst hj; simp
    · have : Nat.beq j i = false := by rw [Bool.eq_false_iff]; simpa using hj
      simp [this, hj]
  have old : ∀ k e mk, find st.heap k = some e → k ≠ i → (ρ.upd st.next m') k = some mk → ρ k = some mk ∧ mk.blk ≠ m.blk := by
    intro k e mk hk hki hmk
    have hlt := find_ne_fresh hS hk
    have hρ : ρ k = some mk := by
      have : k ≠ st.next := by omega
      simpa [Inj.upd, this] using hmk
    obtain ⟨o, bk⟩ := e
    exact ⟨hρ, hS.heap.inj i k b (o, bk) m mk hi hk (Ne.symm hki) hm hρ⟩
  refine ⟨⟨fun j o c h => ?_, fun j k c e mj mk hj hk hjk h1 h2 => ?_⟩, ?_⟩
  · rw [hf] at h
    by_cases hj : st.next = j
    · rw [if_pos hj] at h; cases h; subst hj; exact hb
    · rw [if_neg hj] at h
      by_cases hji : j = i
      · rw [if_pos hji] at h; cases h
      · rw [if_neg hji] at h
        exact (hS.heap.blk j o c h).keep hle fun mj hmj => hw _ (hS.heap.inj i j b (o, c) m mj hi h (Ne.symm hji) hm hmj)
  · rw [hf] at hj hk
    by_cases h3 : st.next = j
    · by_cases h4 : st.next = k
      · exact absurd (h3.symm.trans h4) hjk
      · rw [if_neg h4] at hk
        by_cases hki : k = i
        · rw [if_pos hki] at hk; cases hk
        · rw [if_neg hki] at hk
          subst h3
          rw [Inj.upd_same] at h1
          cases h1
          rw [hmm]
          exact (old k e mk hk hki h2).2
    · rw [if_neg h3] at hj
      by_cases hji : j = i
      · rw [if_pos hji] at hj; cases hj
      · rw [if_neg hji] at hj
        have oj := old j _ mj hj hji h1
        by_cases h4 : st.next = k
        · subst h4
          rw [Inj.upd_same] at h2
          cases h2
          rw [hmm]
          exact Ne.symm oj.2
        · rw [if_neg h4] at hk
          by_cases hki : k = i
          · rw [if_pos hki] at hk; cases hk
          · rw [if_neg hki] at hk
            exact hS.heap.inj j k c e mj mk hj hk hjk oj.1 (old k e mk hk hki h2).1
  · exact {
      le := hle
      next := Nat.le_succ _
      new := fun j mj h h' => by
        by_cases hj : j = st.next
        · subst hj; exact ⟨Nat.le_refl _, Nat.lt_succ_self _⟩
        · simp [Inj.upd, hj, h'] at h
      acq := fun j mj h h' => by
        by_cases hj : j = st.next
        · subst hj
          rw [Inj.upd_same] at h
          cases h
          exact .inr ⟨i, m, (mem_addTo _ _ _).2 (.inl rfl), hm, hmm.symm⟩
        · simp [Inj.upd, hj, h'] at h
      log := fun j h _ => (mem_addTo _ _ _).2 (.inr h)
      frame := fun r hr hn => hw r (fun e => hn i m ((mem_addTo _ _ _).2 (.inl rfl)) hm e.symm)
      size := Nat.le_of_eq hz.symm
      own := fun j h h' _ => by
        rcases (mem_addTo _ _ _).1 h with rfl | h''
        · exact ⟨b, hi⟩
        · exact absurd h'' h'
      own' := fun j c hs h => by
        rw [hf] at h
        by_cases hj : st.next = j
        · subst hj; rw [hfree] at hs; cases hs
        · rw [if_neg hj] at h
          split at h
          · cases h
          · exact ⟨c, h⟩
      os := ho
      tape := ht
      output := hu }
theorem Ext.newId {ρ ρ' : Inj} {st st1 st' : St} {w w' : World} (e : Ext ρ ρ' st1 st' w w') (h : st1.next = st.next) (hl : st1.log = st.log) (hf : st1.heap = st.heap) : Ext ρ ρ' st st' w w' := by
  cases st; cases st1; simp only at h hl hf; subst h hl hf; exact e

theorem first_len {h : Heap} {size n l c : Nat} {b : Option Addr} {cs : List Value} (e : firstCells h size n (.slice b l c) = some cs) : cs.length = n * size := by
  unfold firstCells at e
  cases b with
  | none =>
    simp only at e
    split at e
    · rename_i h0
      cases e
      have : n = 0 := by simpa using h0
      simp [this]
    · cases e
  | some a =>
    simp only at e
    split at e
    · rename_i h0
      cases e
      have : n * size = 0 := by simpa using h0
      simp [this]
    · unfold loadCells at e
      simp only at e
      split at e
      · obtain ⟨h1, rfl⟩ := slc_eq e
        rw [List.length_take, List.length_drop]
        omega
      · cases e
theorem zeroCells_size (z : Array Value) (n : Nat) : (Builtin.zeroCells z n).size = n * z.size := by simp [Builtin.zeroCells]
theorem slice_relen {ρ : Inj} {b b' : Addr} {len len2 cap cap' : Nat} (h : VRel ρ (.slice (some b) len cap) (.slice (some b') len cap')) (hl : len2 ≤ cap) : VRel ρ (.slice (some b) len2 cap) (.slice (some b') len2 cap') := by
  cases h with
  | flat h => simp [flat] at h
  | opens h hl' hc ht => exact .opens h hl hc ht
  | shut h hl' => exact .shut h hl
  | empty =>
    have : len2 = 0 := by omega
    subst this
    exact .empty
theorem append_room_run {P : Program} {w w' : World} (t tx ty e : TypeId) (i : TypeInfo) (ht : P.underlying t = some (.slice e)) (hi : P.info? e = some i) (b off sLen sCap : Nat) (x : Value) (n : Nat) (news : List Value) (hs : Src P i.size tx x n news w)
    (hroom : sLen + n ≤ sCap) (hst : (Go.storeCells ⟨b, off + sLen * i.size, none⟩ news).run P w = .ok () w') :
    (Builtin.append_ #[t, tx] ty #[.slice (some ⟨b, off, none⟩) sLen sCap, x]).run P w = .ok (.slice (some ⟨b, off, none⟩) (sLen + n) sCap) w' := by
  rcases hs.kind with ⟨e', hk⟩ | hk <;> simp [Builtin.append_, run_underlying ht, run_underlying hk, sizeOf, typeInfo, hi, hs.len, hroom, hs.cells, Addr.add_lit, hst]
theorem append_none_run {P : Program} {w : World} (t tx ty e : TypeId) (i : TypeInfo) (ht : P.underlying t = some (.slice e)) (hi : P.info? e = some i) (sLen sCap : Nat) (x : Value) (n : Nat) (news : List Value) (hs : Src P i.size tx x n news w)
    (hroom : sLen + n ≤ sCap) : (Builtin.append_ #[t, tx] ty #[.slice none sLen sCap, x]).run P w = .ok (.slice none (sLen + n) sCap) w := by
  rcases hs.kind with ⟨e', hk⟩ | hk <;> simp [Builtin.append_, run_underlying ht, run_underlying hk, sizeOf, typeInfo, hi, hs.len, hroom, hs.cells]

section
variable {E : Env} (hE : E.Ok) {ρ : Inj} {st : St} {w : World} (hS : SRel E ρ st w) {tmps : List Value} {a : Act}
include hE hS

theorem lenOf_run {x x' : Value} {n : Nat} (hv : VRel ρ x x') (h : lenOf x = some n) : ∀ w0 : World, (Builtin.lenOf x').run E.P w0 = .ok n w0 := by
  unfold lenOf at h
  split at h
  · rename_i b n' c
    cases h
    cases b with
    | none => obtain ⟨rfl, rfl, rfl⟩ := nil_inv hv; intro w0; rfl
    | some b => obtain ⟨rb, ro, cap', rfl, _⟩ := slice_inv hv; intro w0; rfl
  · cases h; rw [hv.same rfl]; intro w0; rfl
  · cases h
theorem first_run {x x' : Value} {size n l : Nat} {cs : List Value} (hv : VRel ρ x x') (hl : lenOf x = some l) (hn : n ≤ l) (h : firstCells st.heap size n x = some cs) :
    ∃ cs', LRel ρ cs cs' ∧ ∀ w0 : World, w0.heap = w.heap → (Builtin.firstCells size n x').run E.P w0 = .ok cs'.toArray w0 := by
  unfold firstCells at h
  split at h
  · rename_i b n' c
    cases hl
    obtain ⟨rb, ro, cap', rfl, q1, q2, q3, q4⟩ := slice_inv hv
    split at h
    · rename_i h0
      cases h
      have h0' : n * size = 0 := by simpa using h0
      refine ⟨[], LRel.nil ρ, fun w0 _ => ?_⟩
      simp [Builtin.firstCells, h0', Go.loadCells, Go.loadCellsFrom]
    · rename_i h0
      have h0' : ¬ (n * size = 0) := by simpa using h0
      obtain ⟨_, m, hm, cs', hl, hrel, hrun, _, hcell⟩ := load_cells hS.heap h
      rcases q4 with ⟨m', hm', rfl, rfl, _⟩ | ⟨z0, _⟩
      · simp only at hm
        rw [hm] at hm'
        cases hm'
        refine ⟨cs', hrel, fun w0 hw0 => ?_⟩
        have := run_loadCells_list (P := E.P) w0 ⟨m.blk, m.off + b.off, none⟩ cs' (fun j v hj => by
          rw [add_none]
          have := hcell j v hj
          unfold World.cell? at this ⊢
          rw [hw0]
          exact this)
        rw [hl] at this
        simp [Builtin.firstCells, this]
      · exfalso
        apply h0'
        have : n = 0 := by omega
        rw [this, Nat.zero_mul]
  · split at h
    · rename_i h0
      cases h
      obtain ⟨rfl, rfl, rfl⟩ := nil_inv hv
      exact ⟨[], LRel.nil ρ, fun w0 _ => by simp [Builtin.firstCells]⟩
    · cases h
  · cases h
    rename_i s
    rw [hv.same rfl]
    refine ⟨(s.extract 0 n).data.toList.map fun b => .int .u8 b.toNat, LRel.flat ?_, fun w0 _ => ?_⟩
    · rw [flatL_iff]
      intro v hv
      obtain ⟨b, _, rfl⟩ := List.mem_map.1 hv
      rfl
    · simp only [Builtin.firstCells, Sem.run_pure]
      congr 1
      apply Array.ext'
      simp
  · cases h
omit hE hS in
theorem LRel.ones {l l' : List Value} (h : LRel ρ l l') (ho : oneCells l = true) : ∀ u, u ∈ l' → u.oneCell' = true := by
  intro u hu
  obtain ⟨j, hj, rfl⟩ := List.getElem_of_mem hu
  have hj' : j < l.length := h.1 ▸ hj
  rw [(h.2 j _ _ (List.getElem?_eq_getElem hj') (List.getElem?_eq_getElem hj)).oneCell]
  exact (oneCells_iff l).1 ho _ (List.getElem_mem hj')
theorem append_sound {argTypes : Array TypeId} {ty : TypeId} {s x s' x' v : Value} {st' : St} (rs : VRel ρ s s') (rx : VRel ρ x x') (h : append E argTypes s x st = some (v, st')) :
    Val E ρ st w ((Builtin.append_ argTypes ty #[s', x']).run E.P w) v st' := by
  unfold append at h
  split at h
  case h_2 => cases h
  rename_i sT xT base sLen sCap hargs
  have hargs' : argTypes = #[sT, xT] := Array.ext' hargs
  rw [hargs']
  split at h
  case h_2 => cases h
  rename_i elem xK hk hx
  obtain ⟨d, hd, hk'⟩ := hE.kd hk
  obtain rfl := kdOf_slice hk'
  obtain ⟨dx, hdx, hkx⟩ := hE.kd hx
  split at h
  case h_2 => cases h
  rename_i ei n hei hlen
  obtain ⟨i, di, hi, hdi, rfl⟩ := hE.ti hei
  simp only at h
  split at h
  · cases h
  rename_i new hnew
  split at h
  case isFalse => cases h
  rename_i hcond
  simp only [Bool.and_eq_true, Nat.ble_eq, Nat.beq_eq, most] at hcond
  obtain ⟨⟨⟨⟨⟨c1, c2⟩, c3⟩, c4⟩, c5⟩, c6⟩ := hcond
  obtain ⟨z, hz⟩ := Option.isSome_iff_exists.1 c6
  obtain ⟨new', hrel, hcells⟩ := first_run hE hS rx hlen (Nat.le_refl _) hnew
  have hone := hrel.ones c3
  have hsrc : Src E.P i.size xT x' n new' w := by
    refine ⟨?_, lenOf_run hE hS rx hlen, hcells w rfl, hcells w.drew rfl, by rw [← hrel.1]; exact c4, hone⟩
    rw [← hkx] at c5
    cases dx <;> simp [kdOf, srcKd] at c5
    · exact .inr hdx
    · exact .inl ⟨_, hdx⟩
  split at h
  · -- room
    rename_i hroom
    have hroom' : sLen + n ≤ sCap := by simpa using hroom
    split at h
    · cases h
      obtain ⟨rfl, rfl, rfl⟩ := nil_inv rs
      have hn : n = 0 := by omega
      subst hn
      refine Val.here hS (v' := .slice none 0 0) ?_ (.flat rfl)
      exact append_none_run sT xT ty elem i hd hi 0 0 x' 0 new' hsrc (Nat.le_refl _)
    · rename_i b
      obtain ⟨rb, ro, cap', rfl, q1, q2, q3, q4⟩ := slice_inv rs
      split at h
      · rename_i h0
        cases h
        have h0' : n * i.size = 0 := by simpa using h0
        have hn' : new' = [] := List.eq_nil_of_length_eq_zero (by rw [← hrel.1, c4, h0'])
        subst hn'
        refine Val.here hS (v' := .slice (some ⟨rb, ro, none⟩) (sLen + n) cap') ?_ (slice_relen rs hroom')
        exact append_room_run sT xT ty elem i hd hi rb ro sLen cap' x' n [] hsrc (by omega) rfl
      · rename_i h0
        have h0' : ¬ (n * i.size = 0) := by simpa using h0
        split at h
        · rename_i st1 hst
          cases h
          rcases q4 with ⟨m, hm, rfl, rfl, q5⟩ | ⟨z1, z2, z3⟩
          · obtain ⟨w', hrun, hH, hX⟩ := store_cells hE hS hst hrel (rb := m.blk) (ro := m.off + b.off + sLen * i.size) (fun m' hm' => by
              simp only at hm'
              rw [hm] at hm'
              cases hm'
              exact ⟨rfl, by simp only; omega⟩)
            exact ⟨_, w', ρ, append_room_run sT xT ty elem i hd hi _ _ sLen cap' x' n new' hsrc (by omega) hrun, slice_relen rs hroom', hH, hX⟩
          · exfalso
            apply h0'
            have : n = 0 := by omega
            rw [this, Nat.zero_mul]
        · cases h
  · -- no room known
    rename_i hroom
    have hroom' : ¬ (sLen + n ≤ sCap) := by simpa using hroom
    split at h
    · cases h
    rename_i old hold
    obtain ⟨old', hrel2, hcells2⟩ := first_run hE hS rs (l := sLen) rfl (Nat.le_refl _) hold
    have hall := hrel2.append hrel
    -- a new block
    have grow : ∀ (base' : Option Addr) (cap' : Nat), s' = .slice base' sLen cap' → cap' < sLen + n → ∀ st1 : St, SRel E ρ st1 w → st1.next = st.next → Ext ρ ρ st st1 w w →
        Val E ρ st w ((Builtin.append_ #[sT, xT] ty #[s', x']).run E.P w) (.slice (some ⟨st.next, 0, none⟩) (sLen + n) (sLen + n)) (st1.new (.cells (old ++ new) elem)) := by
      intro base' cap' he hlt st1 hS1 hnext hX1
      subst he
      have hrun := run_append_grow_src (P := E.P) w sT xT ty elem i z hd hi hz base' sLen cap' old' (hcells2 w.drew rfl) x' n new' hsrc hlt (by omega) (growslice_fits hlt c1)
      generalize hg : grownCap w (sLen + n) cap' elem = g at hrun
      have hge : sLen + n ≤ g := hg ▸ grownCap_ge w _ _ _
      generalize hrow : ((old' ++ new').toArray ++ Builtin.zeroCells z.cells (g - (sLen + n))) = row at hrun
      have hzl := (hE.zeros elem _ z hei hz).2
      simp only at hzl
      have hol := first_len hold
      have hrl : row.size = g * i.size := by
        rw [← hrow]
        have q1 : old'.length = sLen * i.size := by rw [← hrel2.1]; exact hol
        have q2 : new'.length = n * i.size := by rw [← hrel.1]; exact c4
        have q3 : z.cells.size = i.size := by rw [← hzl]; simp
        rw [Array.size_append, zeroCells_size, q3]
        simp only [List.size_toArray, List.length_append, q1, q2]
        rw [← Nat.add_mul, ← Nat.add_mul]
        congr 1
        omega
      have hszE : szOf E elem = i.size := by simp [szOf, hei]
      obtain ⟨ρ', m, g1, g2, g3, g4, g5, g6, g7⟩ := new_cells hS1.drew (old ++ new) elem elem row (fun j v hv => by
        obtain ⟨v', e1, e2⟩ := hall.get hv
        refine ⟨v', ?_, e2⟩
        rw [← hrow, Array.getElem?_append_left (by
          have := (List.getElem?_eq_some_iff.1 e1).1
          simpa using this)]
        simpa using e1)
      refine ⟨_, _, ρ', hrun, ?_, g6, hX1.trans g7.ofDrew⟩
      have := VRel.opens (off := 0) (len := sLen + n) (cap := sLen + n) (cap' := g) g1 (Nat.le_refl _) hge ?_
      · rw [g2, g3, hnext] at this
        exact this
      · rw [g3, g4, g5, hrl, hszE]; omega
    split at h
    · rename_i b off
      obtain ⟨rb, ro, cap', he, q1, q2, q3, q4⟩ := slice_inv rs
      split at h
      · rename_i cs0 t0 hc
        split at h
        · rename_i ht
          cases h
          have ht' : t0 = elem := by simpa using ht
          subst ht'
          have hfd := cellsAt_eq hc
          by_cases hroom2 : sLen + n ≤ cap'
          · -- there is room after all
            rcases q4 with ⟨m, hm, rfl, rfl, q5⟩ | ⟨z1, z2, z3⟩
            · simp only at hm q5
              have hroomT := q5 trivial
              obtain ⟨m1, c, t1, fr, g1, g2, g3, g4, g5⟩ := hS.heap.blk _ _ _ hfd
              rw [hm] at g1
              cases g1
              obtain ⟨k1, k2, k3⟩ := g5 rfl
              have hsz : i.size = m.sz := by have := g4 _ hei; simpa using this
              have hnl : new'.length = n * i.size := by rw [← hrel.1]; exact c4
              have hfit : m.off + off + sLen * i.size + new'.length ≤ c.size := by
                rw [hnl, k1, hsz, Nat.add_assoc, ← Nat.add_mul]
                have : (sLen + n) * m.sz ≤ cap' * m.sz := Nat.mul_le_mul_right _ hroom2
                omega
              have hrun := run_storeCells (P := E.P) new' w m.blk (m.off + off + sLen * i.size) 0 c t1 fr g2 hone (by omega) (fun j hj => k3 j (by omega))
              have hlt := (Array.getElem?_eq_some_iff.1 g2).1
              have hol := first_len hold
              have hcell : ∀ (j : Nat) v, (old ++ new)[j]? = some v → ∃ v', (⟨splice c.toList (m.off + off + sLen * i.size + 0) new'⟩ : Array Value)[m.off + off + j]? = some v' ∧ VRel ρ v v' := by
                intro j v hv
                have hgoal : (⟨splice c.toList (m.off + off + sLen * i.size + 0) new'⟩ : Array Value)[m.off + off + j]? = if m.off + off + sLen * i.size ≤ m.off + off + j ∧ m.off + off + j < m.off + off + sLen * i.size + new'.length then new'[m.off + off + j - (m.off + off + sLen * i.size)]? else c[m.off + off + j]? := by
                  rw [List.getElem?_toArray, Nat.add_zero, splice_get _ _ _ _ (by simpa using hfit)]
                  simp
                rw [hgoal]
                by_cases hj : j < old.length
                · rw [if_neg (by omega)]
                  rw [List.getElem?_append_left hj] at hv
                  have hold2 := hold
                  unfold firstCells at hold2
                  simp only at hold2
                  split at hold2
                  · rename_i h0
                    cases hold2
                    simp at hj
                  · unfold loadCells at hold2
                    simp only [hc] at hold2
                    obtain ⟨r1, rfl⟩ := slc_eq hold2
                    rw [List.getElem?_take] at hv
                    split at hv
                    · rw [List.getElem?_drop] at hv
                      have := g3 (off + j) v hv
                      rwa [show m.off + off + j = m.off + (off + j) by omega]
                    · cases hv
                · rw [List.getElem?_append_right (by omega)] at hv
                  have hjl := (List.getElem?_eq_some_iff.1 hv).1
                  rw [if_pos ⟨by omega, by rw [← hrel.1]; omega⟩, show m.off + off + j - (m.off + off + sLen * i.size) = j - old.length by omega]
                  exact hrel.get hv
              have hle := Inj.upd_le ⟨m.blk, m.off + off, m.tot, m.sz, undef⟩ (hS.fresh st.next (Nat.le_refl _))
              obtain ⟨H1, H2⟩ := regrow_rel (m' := ⟨m.blk, m.off + off, m.tot, m.sz, undef⟩) (w' := w.setBlk m.blk (.cells ⟨splice c.toList (m.off + off + sLen * i.size + 0) new'⟩ t1 fr)) (b' := .cells (old ++ new) t0) hS hfd hm rfl
                ⟨⟨m.blk, m.off + off, m.tot, m.sz, undef⟩, _, t1, fr, Inj.upd_same _ _ _, setBlk_same hlt, fun j v hv => by
                  obtain ⟨v', e1, e2⟩ := hcell j v hv
                  exact ⟨v', e1, e2.mono hle⟩, fun ti hti => by rw [hei] at hti; cases hti; exact hsz, fun _ => ⟨by
                    simp only [List.size_toArray]
                    rw [splice_length _ _ _ (by simpa using hfit)]
                    simpa using k1, by
                    simp only [List.length_append, hol, c4]
                    rw [← Nat.add_mul, hsz]
                    have : (sLen + n) * m.sz ≤ cap' * m.sz := Nat.mul_le_mul_right _ hroom2
                    omega, k3⟩⟩ (fun r hr => setBlk_other hr) (by simp) rfl rfl rfl
              refine ⟨.slice (some ⟨m.blk, m.off + off, none⟩) (sLen + n) cap', _, _, ?_, ?_, H1, H2⟩
              · rw [he]
                exact append_room_run sT xT ty t0 i hd hi _ _ sLen cap' x' n new' hsrc hroom2 hrun
              · have := VRel.opens (off := 0) (len := sLen + n) (cap := sLen + n) (cap' := cap') (Inj.upd_same ρ st.next ⟨m.blk, m.off + off, m.tot, m.sz, undef⟩) (Nat.le_refl _) hroom2 hroomT
                exact this
            · omega
          · obtain ⟨K1, K2⟩ := kill_rel hS hfd
            exact grow (some ⟨rb, ro, none⟩) cap' he (by omega) (st.kill b) K1 rfl K2
        · cases h
      · cases h
    · rename_i hbase
      cases h
      cases base with
      | none =>
        obtain ⟨rfl, rfl, he⟩ := nil_inv rs
        exact grow none 0 he (by omega) st hS rfl (Ext.refl ρ st w)
      | some b =>
        obtain ⟨rb, ro, cap', he, q1, q2, q3, q4⟩ := slice_inv rs
        have hsp : b.spot.isSome = true := by
          obtain ⟨bb, bo, bs⟩ := b
          cases bs with
          | none => exact absurd rfl (hbase bb bo)
          | some k => rfl
        have := q3 hsp
        exact grow (some ⟨rb, ro, none⟩) cap' he (by omega) st hS rfl (Ext.refl ρ st w)
end
end Go.Am
