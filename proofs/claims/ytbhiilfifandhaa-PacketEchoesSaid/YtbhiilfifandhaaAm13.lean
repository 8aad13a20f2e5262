/- What the model's run of an operation comes to: the other built-in functions, ranges over maps, calls, and all of them at once. -/
import Derived.Test.YtbhiilfifandhaaAm12
set_option linter.unusedVariables false
set_option linter.unusedSimpArgs false
set_option linter.unusedSectionVars false
namespace Go.Am

theorem ret_eq {st : St} {o : Option Value} {r : R} (h : ret st o = some r) : ∃ v, o = some v ∧ r = .val v st := by
  cases o with
  | none => cases h
  | some v => exact ⟨v, rfl, by simpa [ret] using h.symm⟩

section
variable {E : Env} (hE : E.Ok) {ρ : Inj} {st : St} {w : World} (hS : SRel E ρ st w) {tmps : List Value} {a : Act}
include hE hS

theorem pureNx {o : Option Value} {s : Sem Value} {r : R} (h : ret st o = some r) (hp : ∀ v, o = some v → Val E ρ st w (s.run E.P w) v st) : Nx E ρ st w ((do pure (Next.value (← s)) : Sem Next).run E.P w) r := by
  obtain ⟨v, h1, rfl⟩ := ret_eq h
  exact (hp v h1).nx
theorem valNx {o : Option R} {s : Sem Value} {r : R} (h : o = some r) (hr : ∀ f xs, r ≠ .call f xs) (hp : ∀ v st', o = some (.val v st') → Val E ρ st w (s.run E.P w) v st') : Nx E ρ st w ((do pure (Next.value (← s)) : Sem Next).run E.P w) r := by
  cases r with
  | val v st' => exact (hp v st' h).nx
  | call f xs => exact absurd rfl (hr f xs)
theorem unitNx {o : Option R} {s : Sem Unit} {r : R} (h : o = some r) (hr : ∀ f xs, r ≠ .call f xs) (hp : ∀ v st', o = some (.val v st') → v = .tuple #[] ∧ UnitTo E ρ st w (s.run E.P w) st') : Nx E ρ st w ((do s; pure Next.skip : Sem Next).run E.P w) r := by
  cases r with
  | val v st' => obtain ⟨rfl, h2⟩ := hp v st' h; exact h2.nx
  | call f xs => exact absurd rfl (hr f xs)

theorem builtin_sound {b : Builtin} {argTypes : Array TypeId} {ty : TypeId} {consts : Array Bool} {xs xs' : List Value} {r : R} (hx : LRel ρ xs xs') (h : builtinOp E b argTypes ty xs st = some r) :
    Nx E ρ st w ((Go.builtin b argTypes ty consts ⟨xs'⟩).run E.P w) r := by
  unfold builtinOp at h
  split at h
  · -- len of a slice
    rename_i base n cap
    obtain ⟨x', rfl, hv⟩ := hx.one
    split at h
    · rename_i t rest hargs
      split at h
      · rename_i elem hk
        cases h
        obtain ⟨d, hd, hk'⟩ := hE.kd hk
        obtain rfl := kdOf_slice hk'
        have hr : (Builtin.len_ argTypes ty #[x']).run E.P w = .ok (.int .i64 (n : Int)) w := by
          cases base with
          | none => obtain ⟨rfl, rfl, rfl⟩ := nil_inv hv; simp [Builtin.len_, args_head hargs, am_underlying w hd, goInt]
          | some b => obtain ⟨rb, ro, cap', rfl, _⟩ := slice_inv hv; simp [Builtin.len_, args_head hargs, am_underlying w hd, goInt]
        exact (Val.here hS hr (.flat rfl)).nx
      · cases h
    · cases h
  · -- len of a map
    rename_i i
    obtain ⟨x', rfl, hv⟩ := hx.one
    split at h
    · rename_i t rest hargs
      split at h
      · rename_i kt elem o es cl hk hm
        cases h
        obtain ⟨d, hd, hk'⟩ := hE.kd hk
        obtain rfl := kdOf_map hk'
        obtain ⟨m0, es', q1, q2, q3⟩ := hS.heap.blk _ _ _ (mapAt_eq hm)
        obtain ⟨m1, hm1, rfl⟩ := map_inv hv
        rw [q1] at hm1
        cases hm1
        have hgo : (getObj m0.blk).run E.P w = .ok (.map es' cl) w := by simp [getObj, Sem.run, q2]
        have hlen : es'.size = es.length := by rw [q3.1]; simp
        exact (Val.here hS (v' := .int .i64 (es.length : Int)) (by simp [Builtin.len_, args_head hargs, am_underlying w hd, hgo, hlen, goInt]) (.flat rfl)).nx
      · cases h
    · cases h
  · rename_i x hn1 hn2
    obtain ⟨x', rfl, hv⟩ := hx.one
    split at h
    · rename_i hf
      rw [hv.same hf]
      refine pureNx hE hS h fun v hp => ?_
      obtain ⟨hr, hfl⟩ := pureV_run hp w
      exact Val.here hS hr (.flat hfl)
    · cases h
  · rename_i s x
    obtain ⟨s', x', rfl, h1, h2⟩ := hx.two
    obtain ⟨⟨v, st'⟩, h3, rfl⟩ := Option.map_eq_some_iff.1 h
    exact (append_sound hE hS h1 h2 h3).nx
  · rename_i s x
    obtain ⟨s', x', rfl, h1, h2⟩ := hx.two
    obtain ⟨⟨v, st'⟩, h3, rfl⟩ := Option.map_eq_some_iff.1 h
    exact (copy_sound hE hS h1 h2 h3).nx
  · split at h
    · rename_i hf
      obtain rfl := hx.same hf
      refine pureNx hE hS h fun v hp => ?_
      obtain ⟨hr, hfl⟩ := pureV_run hp w
      exact Val.here hS hr (.flat hfl)
    · cases h
  · split at h
    · rename_i hf
      obtain rfl := hx.same hf
      refine pureNx hE hS h fun v hp => ?_
      obtain ⟨hr, hfl⟩ := pureV_run hp w
      exact Val.here hS hr (.flat hfl)
    · cases h
  · -- delete
    rename_i i k
    obtain ⟨m', k', rfl, hv, hk0⟩ := hx.two
    split at h
    · rename_i t rest hargs
      split at h
      · rename_i kt elem es cl hk hm
        obtain ⟨d, hd, hk'⟩ := hE.kd hk
        obtain rfl := kdOf_map hk'
        have hfd := mapAt_eq hm
        obtain ⟨m0, es', q1, q2, q3⟩ := hS.heap.blk _ _ _ hfd
        obtain ⟨m1, hm1, rfl⟩ := map_inv hv
        rw [q1] at hm1
        cases hm1
        have hb := (Array.getElem?_eq_some_iff.1 q2).1
        have hgo : (getObj m0.blk).run E.P w = .ok (.map es' cl) w := by simp [getObj, Sem.run, q2]
        have hset : ∀ o, (setObj m0.blk o).run E.P w = .ok () (w.setBlk m0.blk o) := fun o => by simp [setObj, Sem.run, q2, World.setBlk]
        have hemp : es'.isEmpty = es.isEmpty := by
          have := q3.1
          cases es with
          | nil => simp at this; simp [Array.isEmpty, ← this]
          | cons e r =>
            simp at this
            have h0 : ¬ (es'.size = 0) := by omega
            simp only [Array.isEmpty, List.isEmpty_cons, h0, decide_false]
        split at h
        · rename_i j hf
          obtain ⟨hfk, hfe, hck, e', he', hfr⟩ := findKey_run q3 hf w
          obtain rfl := hk0.same hfk
          cases h
          have hj : j < es'.size := by
            have := (List.getElem?_eq_some_iff.1 he').1
            simpa using this
          obtain ⟨g5, g6⟩ := set_rel (w' := w.setBlk m0.blk (.map (es'.eraseIdxIfInBounds j) cl)) (b' := .map (dropEntry es j) cl) hS hfd q1
            ⟨m0, _, q1, setBlk_same hb, by
              have e1 : (es'.eraseIdxIfInBounds j).toList = es'.toList.eraseIdx j := by
                simp [Array.eraseIdxIfInBounds, hj]
              rw [e1]
              exact dropEntry_rel es j q3⟩ (fun r hr => setBlk_other hr) (by simp) rfl rfl rfl
          have hv : Val E ρ st w ((Builtin.delete_ argTypes ty #[.map (some m0.blk), k']).run E.P w) (.tuple #[]) (st.set i (.map (dropEntry es j) cl)) :=
            ⟨.tuple #[], _, ρ, by simp [Builtin.delete_, args_head hargs, am_underlying w hd, hgo, hemp, hck, hfr, hset], .flat rfl, g5, g6⟩
          exact hv.nx
        · rename_i hf
          obtain ⟨hfk, hfe, hck, hfr⟩ := findKey_run q3 hf w
          obtain rfl := hk0.same hfk
          cases h
          have hv : Val E ρ st w ((Builtin.delete_ argTypes ty #[.map (some m0.blk), k']).run E.P w) (.tuple #[]) st :=
            Val.here hS (v' := .tuple #[]) (by simp [Builtin.delete_, args_head hargs, am_underlying w hd, hgo, hemp, hck, hfr, hset, setBlk_id q2]) (.flat rfl)
          exact hv.nx
        · cases h
      · cases h
    · cases h
  · -- clear
    rename_i base n cap
    obtain ⟨x', rfl, hv⟩ := hx.one
    split at h
    · rename_i t rest hargs
      split at h
      · rename_i elem hk
        obtain ⟨d, hd, hk'⟩ := hE.kd hk
        obtain rfl := kdOf_slice hk'
        split at h
        · rename_i h0
          cases h
          have hn : n = 0 := by simpa using h0
          subst hn
          have hr : (Builtin.clear_ argTypes ty #[x']).run E.P w = .ok (.tuple #[]) w := by
            cases base with
            | none => obtain ⟨_, rfl, rfl⟩ := nil_inv hv; simp [Builtin.clear_, args_head hargs, am_underlying w hd]
            | some b => obtain ⟨rb, ro, cap', rfl, _⟩ := slice_inv hv; simp [Builtin.clear_, args_head hargs, am_underlying w hd]
          exact (Val.here hS hr (.flat rfl)).nx
        · rename_i h0
          have hn : ¬ n = 0 := by simpa using h0
          split at h
          · rename_i b z hz
            obtain ⟨st1, hst, rfl⟩ := Option.map_eq_some_iff.1 h
            obtain ⟨i, hi1, hi2, hi3, hi4⟩ := hE.zero hz
            obtain ⟨rb, ro, cap', rfl, q1, q2, q3, q4⟩ := slice_inv hv
            have hzl : flatL (zeros z.cells.toList n) = true := flatL_zeros (flat_cells hi3) n
            rcases q4 with ⟨m, hm, rfl, rfl, q5⟩ | ⟨z1, z2, z3⟩
            · obtain ⟨w', hrun, hH, hX⟩ := store_cells hE hS hst (LRel.flat hzl) (rb := m.blk) (ro := m.off + b.off) (fun m' hm' => by
                simp only at hm'
                rw [hm] at hm'
                cases hm'
                exact ⟨rfl, rfl⟩)
              have hzc : (Builtin.zeroCells z.cells n).toList = zeros z.cells.toList n := by
                have := zeros_eq z.cells n z.cells.size (by simp)
                unfold Builtin.zeroCells
                rw [this]
              have hval : Val E ρ st w ((Builtin.clear_ argTypes ty #[.slice (some ⟨m.blk, m.off + b.off, none⟩) n cap']).run E.P w) (.tuple #[]) st1 := by
                refine ⟨.tuple #[], w', ρ, ?_, .flat rfl, hH, hX⟩
                obtain ⟨n', rfl⟩ : ∃ n', n = n' + 1 := ⟨n - 1, by omega⟩
                simp [Builtin.clear_, args_head hargs, am_underlying w hd, am_zeroValue w hi1 hi2, hzc, hrun]
              exact hval.nx
            · exact absurd z1 hn
          · cases h
      · cases h
    · cases h
  · cases h
end
end Go.Am
