/- What the model's run of an operation comes to: the other built-in functions, ranges over maps, calls, and all of them at once. -/
import Derived.Test.YtbhiilfifandhaaAm11
import Derived.Calls
set_option linter.unusedVariables false
set_option linter.unusedSimpArgs false
set_option linter.unusedSectionVars false
namespace Go.Am

/-- What an operation's run comes to, whatever the machine's step says. -/
def NxVal (E : Env) (ρ : Inj) (st : St) (w : World) (r : Result Next) (v : Value) (st' : St) : Prop :=
  ∃ nx v' w' ρ', r = .ok nx w' ∧ (nx = .value v' ∨ (nx = .skip ∧ v' = undef)) ∧ VRel ρ' v v' ∧ HRel E ρ' (find st'.heap) w' ∧ Ext ρ ρ' st st' w w'
def Nx (E : Env) (ρ : Inj) (st : St) (w : World) (r : Result Next) : R → Prop
  | .val v st' => NxVal E ρ st w r v st'
  | .call f args => ∃ args' fn c, r = .ok (.enter f ⟨args'⟩) w ∧ LRel ρ args args' ∧ get E.funcs f = some fn ∧ fn.body = some c
theorem Val.nx {E : Env} {ρ : Inj} {st st' : St} {w : World} {s : Sem Value} {v : Value} (h : Val E ρ st w (s.run E.P w) v st') : NxVal E ρ st w ((do pure (Next.value (← s)) : Sem Next).run E.P w) v st' := by
  obtain ⟨v', w', ρ', hr, hv, hh, he⟩ := h
  exact ⟨_, v', w', ρ', by simp only [Sem.run_bind, hr, Result.andThen_ok, Sem.run_pure], .inl rfl, hv, hh, he⟩
theorem UnitTo.nx {E : Env} {ρ : Inj} {st st' : St} {w : World} {s : Sem Unit} (h : UnitTo E ρ st w (s.run E.P w) st') : NxVal E ρ st w ((do s; pure Next.skip : Sem Next).run E.P w) (.tuple #[]) st' := by
  obtain ⟨w', ρ', hr, hh, he⟩ := h
  exact ⟨_, undef, w', ρ', by simp only [Sem.run_bind, hr, Result.andThen_ok, Sem.run_pure], .inr ⟨rfl, rfl⟩, .flat rfl, hh, he⟩

theorem first_zero {h : Heap} {size : Nat} {x : Value} {cs : List Value} (e : firstCells h size 0 x = some cs) : cs = [] := by
  unfold firstCells at e
  split at e
  · rw [if_pos (by simp)] at e; cases e; rfl
  · rw [if_pos (by simp)] at e; cases e; rfl
  · cases e
    rename_i s
    apply List.eq_nil_of_length_eq_zero
    rw [List.length_map, Array.length_toList]
    show (s.extract 0 0).size = 0
    simp
  · cases e
theorem LRel.one {ρ : Inj} {v : Value} {ws : List Value} (h : LRel ρ [v] ws) : ∃ v', ws = [v'] ∧ VRel ρ v v' := by
  obtain ⟨v', r, rfl, h1, h2⟩ := h.cons_inv
  exact ⟨v', by rw [h2.nil_inv], h1⟩
theorem LRel.two {ρ : Inj} {v u : Value} {ws : List Value} (h : LRel ρ [v, u] ws) : ∃ v' u', ws = [v', u'] ∧ VRel ρ v v' ∧ VRel ρ u u' := by
  obtain ⟨v', r, rfl, h1, h2⟩ := h.cons_inv
  obtain ⟨u', rfl, h3⟩ := h2.one
  exact ⟨v', u', rfl, h1, h3⟩
theorem args_head {l : List TypeId} {a : Array TypeId} {t : TypeId} (h : a.toList = t :: l) : a[0]? = some t := by
  rw [← Array.getElem?_toList, h]; rfl

section
variable {E : Env} (hE : E.Ok) {ρ : Inj} {st : St} {w : World} (hS : SRel E ρ st w) {tmps : List Value} {a : Act}
include hE hS

theorem copy_sound {argTypes : Array TypeId} {ty : TypeId} {d s d' s' v : Value} {st' : St} (rd : VRel ρ d d') (rs : VRel ρ s s') (h : copy E argTypes d s st = some (v, st')) :
    Val E ρ st w ((Builtin.copy_ argTypes ty #[d', s']).run E.P w) v st' := by
  unfold copy at h
  split at h
  case h_2 => cases h
  rename_i dT rest base dLen dCap hargs
  have ha := args_head hargs
  split at h
  case h_2 => cases h
  rename_i elem hk
  obtain ⟨dd, hd, hk'⟩ := hE.kd hk
  obtain rfl := kdOf_slice hk'
  split at h
  case h_2 => cases h
  rename_i size sl hsz hlen
  obtain ⟨i, hi, rfl⟩ := hE.size hsz
  split at h
  · cases h
  rename_i cs hcs
  have hle : Nat.min sl dLen ≤ sl := Nat.min_le_left _ _
  have hle2 : Nat.min sl dLen ≤ dLen := Nat.min_le_right _ _
  obtain ⟨cs', hrel, hcells⟩ := first_run hE hS rs hlen hle hcs
  have hl := lenOf_run hE hS rs hlen
  split at h
  · cases h
    obtain ⟨rfl, rfl, rfl⟩ := nil_inv rd
    refine Val.here hS (v' := .int .i64 ((Nat.min sl 0 : Nat) : Int)) ?_ (.flat rfl)
    have hc := hcells w rfl
    rw [show Nat.min sl 0 = 0 from Nat.min_zero sl] at hc ⊢
    simp [Builtin.copy_, ha, am_underlying w hd, hl, am_sizeOf w hi, hc, goInt]
  · rename_i b
    obtain ⟨rb, ro, cap', rfl, q1, q2, q3, q4⟩ := slice_inv rd
    have run : ∀ w', (Go.storeCells ⟨rb, ro, none⟩ cs').run E.P w = .ok () w' → (Builtin.copy_ argTypes ty #[.slice (some ⟨rb, ro, none⟩) dLen cap', s']).run E.P w = .ok (.int .i64 ((Nat.min sl dLen : Nat) : Int)) w' := by
      intro w' hst
      have hc := hcells w rfl
      generalize hn : Nat.min sl dLen = n2 at hc ⊢
      simp only [Builtin.copy_, ha, Sem.run_bind, am_underlying w hd, Result.andThen_ok, hl, am_sizeOf w hi, List.getElem?_toArray, List.getElem?_cons_zero, List.getElem?_cons_succ, Sem.run_pure]
      rw [show Nat.min sl dLen = n2 from hn] at *
      simp [hc, hst, goInt]
    split at h
    · rename_i h0
      cases h
      have hcs0 : cs' = [] := by
        have hc : cs = [] := by simpa using h0
        subst hc
        exact hrel.nil_inv
      subst hcs0
      exact Val.here hS (run w rfl) (.flat rfl)
    · rename_i h0
      split at h
      · rename_i st1 hst
        cases h
        rcases q4 with ⟨m, hm, rfl, rfl, q5⟩ | ⟨z1, z2, z3⟩
        · obtain ⟨w', hrun, hH, hX⟩ := store_cells hE hS hst hrel (rb := m.blk) (ro := m.off + b.off) (fun m' hm' => by
            simp only at hm'
            rw [hm] at hm'
            cases hm'
            exact ⟨rfl, rfl⟩)
          exact ⟨_, w', ρ, run w' hrun, .flat rfl, hH, hX⟩
        · exfalso
          apply h0
          have : Nat.min sl dLen = 0 := by omega
          rw [this] at hcs
          rw [first_zero hcs]
          rfl
      · cases h
end
end Go.Am
