/- What the model's run of an operation comes to, operation by operation: structs, loads, stores, tests, slices. -/
import Derived.Test.YtbhiilfifandhaaAm4
set_option linter.unusedVariables false
set_option linter.unusedSimpArgs false
set_option linter.unusedSectionVars false
namespace Go.Am

theorem aggOf_eq {o : Option (List Value)} {v : Value} (h : aggOf o = some v) : ∃ cs, o = some cs ∧ v = .agg ⟨cs⟩ := by
  cases o with
  | none => cases h
  | some cs => exact ⟨cs, rfl, by simpa [aggOf] using h.symm⟩
theorem mapM_places {α β : Type} (f : α → Sem β) (xs : Array α) : xs.mapM f = (xs.toList.foldlM (fun (bs : Array β) a => do pure (bs.push (← f a))) #[]) := by
  rw [Array.mapM_eq_foldlM, ← Array.foldlM_toList]
  rfl
theorem placesOf_length {E : Env} (fs : List (Nat × TypeId)) {pl : List (Nat × Nat)} (h : placesOf E fs = some pl) : pl.length = fs.length := by
  induction fs generalizing pl with
  | nil => simp only [placesOf, Option.some.injEq] at h; subst h; rfl
  | cons f r ih =>
    obtain ⟨o, t⟩ := f
    simp only [placesOf] at h
    split at h
    · rename_i n l h1 h2; cases h; simp [ih h2]
    · cases h
theorem getD_some {α : Type} {o : Option α} {a d : α} (h : o = some a) : o.getD d = a := by rw [h]; rfl

theorem oneCells_iff (l : List Value) : oneCells l = true ↔ ∀ v, v ∈ l → v.oneCell' = true := by
  induction l with
  | nil => simp [oneCells]
  | cons v r ih => simp [oneCells, ih]

section
variable {E : Env} (hE : E.Ok) {ρ : Inj} {st : St} {w : World} (hS : SRel E ρ st w) {tmps : List Value} {a : Act}
include hE hS

theorem build_sound {t : TypeId} {ps : Array (Nat × Operand)} {v : Value} (hx : ∀ p, p ∈ ps.toList → EvR E ρ tmps a p.2) (h : stepBuild E tmps t ps = some v) :
    Val E ρ st w ((Instr.build t (ps.map fun p => (p.1, a.eval p.2))).run E.P w) v st := by
  unfold stepBuild at h
  split at h
  · rename_i vs fs z h1 h2 h3
    obtain ⟨d, hd, hk⟩ := hE.kd h2
    obtain ⟨gs, rfl, rfl⟩ := kdOf_struct hk
    obtain ⟨i, hi, hz, hfl, hzl⟩ := hE.zero h3
    split at h
    · rename_i pl hpl
      obtain ⟨cs, hcs, rfl⟩ := aggOf_eq h
      obtain ⟨cs', hcs', hrel⟩ := fill_rel (get pl) vs (evalP_rel ps.toList hx h1) (LRel.flat (ρ := ρ) (flat_cells hfl)) hcs
      have hfill := fill_eq (get pl) _ _ hcs'
      refine Val.here hS ?_ (VRel.mk_agg hrel)
      have hpr := places_run hE (w := w) hpl #[]
      simp only [Instr.build, Sem.run_bind, am_zeroValue w hi hz, Result.andThen_ok, am_underlying w hd, mapM_places]
      rw [hpr]
      simp only [Result.andThen_ok]
      have hgp : (fun x => (#[] ++ pl.toArray : Array (Nat × Nat))[x]?) = get pl := by
        funext x
        rw [get_eq]
        simp
      have hps : (ps.map fun p => (p.1, a.eval p.2)).toList = ps.toList.map fun p => (p.1, a.eval p.2) := by simp
      rw [hgp, hps]
      have hzc : (⟨z.cells.toList⟩ : Array Value) = z.cells := rfl
      rw [hzc] at hfill
      rw [hfill]
      rfl
    · cases h
  · rename_i vs n e z h1 h2 h3
    obtain ⟨d, hd, hk⟩ := hE.kd h2
    obtain rfl := kdOf_array hk
    obtain ⟨i, hi, hz, hfl, hzl⟩ := hE.zero h3
    split at h
    · rename_i k hk2
      obtain ⟨ie, hie, rfl⟩ := hE.size hk2
      obtain ⟨cs, hcs, rfl⟩ := aggOf_eq h
      obtain ⟨cs', hcs', hrel⟩ := fill_rel _ vs (evalP_rel ps.toList hx h1) (LRel.flat (ρ := ρ) (flat_cells hfl)) hcs
      have hfill := fill_eq _ _ _ hcs'
      refine Val.here hS ?_ (VRel.mk_agg hrel)
      simp only [Instr.build, Sem.run_bind, am_zeroValue w hi hz, Result.andThen_ok, am_underlying w hd, am_sizeOf w hie]
      have hps : (ps.map fun p => (p.1, a.eval p.2)).toList = ps.toList.map fun p => (p.1, a.eval p.2) := by simp
      rw [hps]
      have hzc : (⟨z.cells.toList⟩ : Array Value) = z.cells := rfl
      rw [hzc] at hfill
      rw [hfill]
      rfl
    · cases h
  · cases h

/-- Zero cells, in the model and in the machine. -/
theorem zerosOf_eq {elem : TypeId} {ei : TI} (hei : get E.types elem = some ei) {n : Nat} {zs : List Value} (h : zerosOf ei n = some zs) :
    flatL zs = true ∧ ((if n * ei.size = 0 then pure #[] else do pure (← zeroValue elem).cells : Sem (Array Value)) >>= fun zero => pure ((Array.range (n * ei.size)).map (zero[· % zero.size]!))).run E.P w = .ok ⟨zs⟩ w := by
  unfold zerosOf at h
  split at h
  · rename_i h0
    cases h
    have h0' : n * ei.size = 0 := by simpa using h0
    refine ⟨rfl, ?_⟩
    rw [if_pos h0']
    simp [h0']
  · rename_i h0
    have h0' : ¬ n * ei.size = 0 := by simpa using h0
    split at h
    · rename_i z hz
      cases h
      have := hE.zeros elem ei z hei hz
      obtain ⟨i, d, hi, hd, rfl⟩ := hE.ti hei
      refine ⟨flatL_zeros (flat_cells this.1) n, ?_⟩
      rw [if_neg h0']
      simp only [Sem.run_bind, am_zeroValue w hi hz, Result.andThen_ok, Sem.run_pure]
      rw [zeros_eq z.cells n _ this.2]
    · cases h

theorem load_var {t : TypeId} {b : Addr} {v : Value} {rb ro : Nat} (h : loadVar E st.heap t b = some v) (hb : ∀ m, ρ b.block = some m → rb = m.blk ∧ ro = m.off + b.off) :
    ∃ v', (Go.loadVar t ⟨rb, ro, none⟩).run E.P w = .ok v' w ∧ VRel ρ v v' := by
  unfold loadVar at h
  split at h
  · rename_i ti hti
    obtain ⟨i, d, hi, hd, rfl⟩ := hE.ti hti
    split at h
    · rename_i hagg
      split at h
      · rename_i cs hcs
        cases h
        obtain ⟨hs, m, hm, cs', hl, hrel, hrun, _⟩ := load_cells hS.heap hcs
        obtain ⟨rfl, rfl⟩ := hb m hm
        refine ⟨.agg ⟨cs'⟩, ?_, VRel.mk_agg hrel⟩
        have hagg' : (kdOf d).agg = true := hagg
        simp only [Go.loadVar, Sem.run_bind, am_isAgg w hd, Result.andThen_ok, hagg', if_true, am_sizeOf w hi, hrun, Sem.run_pure]
      · cases h
    · rename_i hagg
      split at h
      · rename_i hcs
        cases h
        obtain ⟨hs, m, hm, cs', hl, hrel, hrun, hone, _⟩ := load_cells hS.heap hcs
        obtain ⟨rfl, rfl⟩ := hb m hm
        obtain ⟨v', rfl, hc⟩ := hone rfl _ rfl
        refine ⟨v', ?_, hrel.2 0 _ _ rfl rfl⟩
        have hagg' : (kdOf d).agg = false := by simpa using hagg
        simp only [Go.loadVar, Sem.run_bind, am_isAgg w hd, Result.andThen_ok, hagg', Bool.false_eq_true, if_false, run_load, hc]
      · cases h
  · cases h
theorem ptr_inv {b : Addr} {v' : Value} (h : VRel ρ (.pointer (some b)) v') : b.spot = none ∧ ∃ m, ρ b.block = some m ∧ v' = .pointer (some ⟨m.blk, m.off + b.off, none⟩) := by
  cases h with
  | flat h => simp [flat] at h
  | ptr h => exact ⟨rfl, _, h, rfl⟩
theorem load_sound {t : TypeId} {x : Operand} {v : Value} (hx : EvR E ρ tmps a x) (h : stepLoad E tmps t x st = some v) : Val E ρ st w ((Instr.loadAt t (a.eval x)).run E.P w) v st := by
  unfold stepLoad at h
  split at h
  · rename_i b hb
    obtain ⟨_, m, hm, he⟩ := ptr_inv hE hS (hx _ hb)
    rw [he]
    obtain ⟨v', hr, hv⟩ := load_var hE hS h (rb := m.blk) (ro := m.off + b.off) (fun m' hm' => by rw [hm] at hm'; cases hm'; exact ⟨rfl, rfl⟩)
    exact Val.here hS (by simp [Instr.loadAt, Instr.sureAddr, hr]) hv
  · cases h

/-- Stores into a block of one's own. -/
theorem store_cells {b : Addr} {vs vs' : List Value} {st' : St} {rb ro : Nat} (h : storeCells st b vs = some st') (hvs : LRel ρ vs vs') (hb : ∀ m, ρ b.block = some m → rb = m.blk ∧ ro = m.off + b.off) :
    ∃ w', (Go.storeCells ⟨rb, ro, none⟩ vs').run E.P w = .ok () w' ∧ HRel E ρ (find st'.heap) w' ∧ Ext ρ ρ st st' w w' := by
  unfold storeCells at h
  split at h
  · cases h
  split at h
  · rename_i cs t hc
    split at h
    · rename_i hcond
      cases h
      simp only [Bool.and_eq_true, Nat.ble_eq] at hcond
      obtain ⟨hroom, hone⟩ := hcond
      have hfd := cellsAt_eq hc
      obtain ⟨m, c, t', fr, h1, h2, h3, h7, h4⟩ := hS.heap.blk _ _ _ hfd
      obtain ⟨h5, h8, h6⟩ := h4 rfl
      obtain ⟨rfl, rfl⟩ := hb m h1
      have hsz : m.off + b.off + vs'.length ≤ c.size := by rw [← hvs.1]; omega
      have hone' : ∀ v, v ∈ vs' → v.oneCell' = true := by
        intro v hv
        obtain ⟨j, hj, rfl⟩ := List.getElem_of_mem hv
        have hj' : j < vs.length := hvs.1 ▸ hj
        rw [(hvs.2 j _ _ (List.getElem?_eq_getElem hj') (List.getElem?_eq_getElem hj)).oneCell]
        exact (oneCells_iff vs).1 hone _ (List.getElem_mem hj')
      have hrun := run_storeCells (P := E.P) vs' w m.blk (m.off + b.off) 0 c t' fr h2 hone' (by omega) (fun j hj => h6 j (by omega))
      refine ⟨_, hrun, ?_⟩
      have hlt := (Array.getElem?_eq_some_iff.1 h2).1
      refine set_rel hS hfd h1 ?_ (fun r hr => setBlk_other hr) (by simp) rfl rfl rfl
      refine ⟨m, _, t', fr, h1, setBlk_same hlt, fun j v hv => ?_, h7, fun _ => ⟨?_, ?_, h6⟩⟩
      · rw [splice_get _ _ _ _ hroom] at hv
        have hgoal : (⟨splice c.toList (m.off + b.off + 0) vs'⟩ : Array Value)[m.off + j]? = if m.off + b.off ≤ m.off + j ∧ m.off + j < m.off + b.off + vs'.length then vs'[m.off + j - (m.off + b.off)]? else c[m.off + j]? := by
          rw [List.getElem?_toArray, Nat.add_zero, splice_get _ _ _ _ (by simpa using hsz)]
          simp
        rw [hgoal]
        split at hv
        · rename_i hj
          rw [if_pos ⟨by omega, by rw [← hvs.1]; omega⟩, show m.off + j - (m.off + b.off) = j - b.off by omega]
          exact hvs.get hv
        · rename_i hj
          rw [if_neg (by rw [← hvs.1]; omega)]
          exact h3 j v hv
      · simp only [List.size_toArray]
        rw [splice_length _ _ _ (by simpa using hsz)]
        simpa using h5
      · rw [splice_length _ _ _ hroom]; exact h8
    · cases h
  · cases h

theorem store_sound {t : TypeId} {x y : Operand} {v : Value} {st' : St} (hx : EvR E ρ tmps a x) (hy : EvR E ρ tmps a y) (h : stepStore E tmps t x y st = some (.val v st')) :
    v = .tuple #[] ∧ UnitTo E ρ st w ((Instr.storeAt t (a.eval x) (a.eval y)).run E.P w) st' := by
  unfold stepStore at h
  split at h
  · rename_i b u hb hu
    split at h
    · rename_i size hsz
      split at h
      · rename_i hlen
        split at h
        · rename_i st1 hst
          cases h
          refine ⟨rfl, ?_⟩
          obtain ⟨_, m, hm, he⟩ := ptr_inv hE hS (hx _ hb)
          obtain ⟨i, hi, hi2⟩ := hE.size hsz
          have hcells := (hy _ hu).cells
          obtain ⟨w', hrun, hH, hExt⟩ := store_cells hE hS hst hcells (rb := m.blk) (ro := m.off + b.off) (fun m' hm' => by rw [hm] at hm'; cases hm'; exact ⟨rfl, rfl⟩)
          refine ⟨w', ρ, ?_, hH, hExt⟩
          have hlen' : (a.eval y).cells.size = i.size := by
            have h1 : u.cells.toList.length = size := by simpa using hlen
            have h2 := hcells.1
            rw [hi2, ← h1, h2]
            simp
          simp only [Instr.storeAt, he, Instr.sureAddr, Sem.run_bind, Sem.run_pure, Result.andThen_ok, Go.storeVar, am_sizeOf w hi, hlen']
          simpa using hrun
        · cases h
      · cases h
    · cases h
  · cases h
theorem nilCheck_sound {x : Operand} {o : Oper} {v : Value} (ho : o.op = .nilCheck x) (hx : EvR E ρ tmps a x) (h : stepNilCheck E tmps x = some v) :
    ∃ v', (execOp a.eval o).run E.P w = .ok (.value v') w ∧ VRel ρ v v' := by
  unfold stepNilCheck at h
  split at h
  · rename_i b hb
    cases h
    obtain ⟨_, m, hm, he⟩ := ptr_inv hE hS (hx _ hb)
    exact ⟨_, by simp [execOp, ho, he], he ▸ hx _ hb⟩
  · rename_i f fi ca hb
    cases h
    have := hx _ hb
    have he : ∃ fi' ca', a.eval x = .func (.func f) fi' ca' := by
      generalize a.eval x = y at this
      cases this with
      | flat h => simp [flat] at h
      | func h1 h2 h3 h4 => exact ⟨_, _, rfl⟩
    obtain ⟨fi', ca', he⟩ := he
    exact ⟨_, by simp [execOp, ho, he], he ▸ this⟩
  · cases h
theorem intOp_run {op : BinOp} {k : IntKind} {t : TypeId} {m n : Int} {v : Value} (hs : isShift op = false) (h : intOp op k m n = some v) : (Go.binOp op t (.int k m) (.int k n)).run E.P w = .ok v w ∧ flat v = true := by
  cases op <;> simp only [isShift, Bool.true_eq_false] at hs <;> simp only [intOp] at h
  all_goals first
    | (cases h; refine ⟨?_, rfl⟩; simp [Go.binOp, Op.intArith, Op.intCmp, Op.intBits]; done)
    | (split at h
       · cases h
       · rename_i h0
         cases h
         refine ⟨?_, rfl⟩
         simp [Go.binOp, Op.intDiv, h0])
    | (cases h; done)
theorem shiftOp_run {op : BinOp} {k k' : IntKind} {t : TypeId} {m n : Int} {v : Value} (hs : isShift op = true) (h : shiftOp op k m n = some v) : (Go.binOp op t (.int k m) (.int k' n)).run E.P w = .ok v w ∧ flat v = true := by
  cases n with
  | negSucc n => simp [shiftOp] at h
  | ofNat n =>
    have h0 : ¬ ((n : Int) < 0) := by omega
    cases op <;> simp only [isShift, Bool.false_eq_true] at hs <;> simp only [shiftOp, Option.some.injEq] at h <;> subst h <;> refine ⟨?_, rfl⟩ <;> simp [Go.binOp, Op.shift, h0]
theorem sameKind_eq {k k' : IntKind} (h : sameKind k k' = true) : k = k' := by
  cases k <;> cases k' <;> first | rfl | simp [sameKind] at h
end
end Go.Am
