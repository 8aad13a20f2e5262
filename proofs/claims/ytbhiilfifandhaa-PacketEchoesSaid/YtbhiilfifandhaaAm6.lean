/- What the model's run of an operation comes to, operation by operation: tests, conversions, makes, slices, fields, elements. -/
import Derived.Test.YtbhiilfifandhaaAm5
set_option linter.unusedVariables false
set_option linter.unusedSimpArgs false
set_option linter.unusedSectionVars false
namespace Go.Am

theorem wrap_in {n : Int} (h0 : 0 ≤ n) (h1 : n < 9223372036854775808) : IntKind.i64.wrap n = n := by
  have e : n % 18446744073709551616 = n := Int.emod_eq_of_lt h0 (by omega)
  have p : (2 : Int) ^ 64 = 18446744073709551616 := rfl
  have q : (2 : Int) ^ (64 - 1) = 9223372036854775808 := rfl
  have h2 : ¬ (n ≥ 9223372036854775808) := by omega
  simp only [IntKind.wrap, IntKind.bits, IntKind.signed, p, q, e, h2, decide_false, Bool.and_false, Bool.false_eq_true, if_false]
theorem HRel.same {E : Env} {ρ : Inj} {h : Nat → Option (Bool × Blk)} {w w0 : World} (e : w0.heap = w.heap) (H : HRel E ρ h w) : HRel E ρ h w0 :=
  ⟨fun i o b hb => (H.blk i o b hb).keep (Inj.le.refl ρ) (fun m _ => by rw [e]), H.inj⟩
theorem SRel.drew {E : Env} {ρ : Inj} {st : St} {w : World} (h : SRel E ρ st w) : SRel E ρ st w.drew := ⟨HRel.same (w := w) (w0 := w.drew) rfl h.heap, h.fresh, h.globs, h.orc⟩
theorem Ext.ofDrew {ρ ρ' : Inj} {st st' : St} {w w' : World} (e : Ext ρ ρ' st st' w.drew w') : Ext ρ ρ' st st' w w' :=
  ⟨e.le, e.next, e.new, e.acq, e.log, e.frame, e.size, e.own, e.own', e.os, e.tape, e.output⟩

/-! ### Equality of what can't be equal -/
theorem eq_nil' {P : Program} {t : TypeId} {d : TypeDesc} (w : World) (hd : P.underlying t = some d) (n : Nat) {a b : Value} (h : oneNil (some (kdOf d)) a b = true) : (Op.equalIn (n + 1) t a b).run P w = .ok false w := by
  unfold oneNil at h
  split at h
  case h_9 => cases h
  all_goals
    rename_i hk
    cases d <;> simp only [kdOf, Option.some.injEq, Kd.ptr.injEq, Kd.slice.injEq, Kd.map.injEq, reduceCtorEq] at hk
    simp only [Op.equalIn, Sem.run_bind, am_underlying w hd, Result.andThen_ok]
    rfl
theorem eq_nil {P : Program} {t : TypeId} {d : TypeDesc} (w : World) (hd : P.underlying t = some d) {a b : Value} (h : oneNil (some (kdOf d)) a b = true) : (Op.equal t a b).run P w = .ok false w :=
  eq_nil' w hd 9999 h
theorem guard_run {P : Program} {op : BinOp} {t : TypeId} {x y : Operand} {a b : Value} (w : World) (h1 : ∀ c, a ≠ .agg c) (h2 : a ≠ .nilIface) : (eqGuard op t x y a b).run P w = .ok () w := by
  unfold eqGuard
  cases a <;> first
    | exact absurd rfl h2
    | exact absurd rfl (h1 _)
    | (cases op <;> rfl)

section
variable {E : Env} (hE : E.Ok) {ρ : Inj} {st : St} {w : World} (hS : SRel E ρ st w) {tmps : List Value} {a : Act}
include hE hS

theorem oneNil_rel {k : Option Kd} {u v u' v' : Value} (hu : VRel ρ u u') (hv : VRel ρ v v') (h : oneNil k u v = true) : oneNil k u' v' = true ∧ (∀ c, u' ≠ .agg c) ∧ u' ≠ .nilIface ∧ (∀ kk n, u' ≠ .int kk n) ∧ (∀ s, u' ≠ .string s) ∧ (∀ kk n, u' ≠ .float kk n) ∧ (∀ kk n m, u' ≠ .complex kk n m) := by
  unfold oneNil at h
  split at h
  all_goals first
    | (cases h; done)
    | skip
  all_goals
    cases hu <;> cases hv <;> first
      | (simp [oneNil]; done)
      | (simp_all [flat]; done)
theorem bin_sound {op : BinOp} {t : TypeId} {x y : Operand} {v : Value} (hx : EvR E ρ tmps a x) (hy : EvR E ρ tmps a y) (h : stepBin E tmps op t x y = some v) :
    Val E ρ st w ((do eqGuard op t x y (a.eval x) (a.eval y); Go.binOp op t (a.eval x) (a.eval y)).run E.P w) v st := by
  unfold stepBin at h
  split at h
  · rename_i u u2 h1 h2
    have r1 := hx _ h1
    have r2 := hy _ h2
    unfold binOp at h
    split at h
    · rename_i k m k' n
      rw [r1.same rfl, r2.same rfl]
      have hg := guard_run (P := E.P) (op := op) (t := t) (x := x) (y := y) (b := .int k' n) w (a := .int k m) (by simp) (by simp)
      split at h
      · rename_i hsh
        obtain ⟨hr, hf⟩ := shiftOp_run hE hS (k' := k') (t := t) hsh h
        exact Val.here hS (by simp [hg, hr]) (.flat hf)
      · rename_i hsh
        split at h
        · rename_i hk
          obtain rfl := sameKind_eq hE hS hk
          obtain ⟨hr, hf⟩ := intOp_run hE hS (t := t) (by simpa using hsh) h
          exact Val.here hS (by simp [hg, hr]) (.flat hf)
        · cases h
    · split at h
      · rename_i hfl
        simp only [Bool.and_eq_true] at hfl
        rw [r1.same hfl.1, r2.same hfl.2]
        obtain ⟨hr, hf⟩ := pureV_run h w
        exact Val.here hS hr (.flat hf)
      · split at h
        · rename_i hn
          have hk : ∃ d, E.P.underlying t = some d ∧ E.kd t = some (kdOf d) := by
            cases hk : E.kd t with
            | none => rw [hk] at hn; simp [oneNil] at hn
            | some k => obtain ⟨d, e1, e2⟩ := hE.kd hk; exact ⟨d, e1, by rw [e2]⟩
          obtain ⟨d, hd, hkd⟩ := hk
          rw [hkd] at hn
          obtain ⟨hn', q1, q2, q3, q4, q5, q6⟩ := oneNil_rel hE hS r1 r2 hn
          have heq := eq_nil (P := E.P) w hd hn'
          have hg := guard_run (P := E.P) (op := op) (t := t) (x := x) (y := y) (b := a.eval y) w q1 q2
          generalize a.eval x = p at *
          generalize a.eval y = q at *
          have hb : (Go.binOp .eql t p q).run E.P w = .ok (.bool false) w ∧ (Go.binOp .neq t p q).run E.P w = .ok (.bool true) w := by
            cases p <;> first
              | (simp [Go.binOp, heq]; done)
              | (exact absurd rfl (q3 _ _))
              | (exact absurd rfl (q4 _))
              | (exact absurd rfl (q5 _ _))
              | (exact absurd rfl (q6 _ _ _))
              | (cases q <;> simp [Go.binOp, heq])
          cases op <;> simp only [unlike] at h <;> first
            | (cases h; done)
            | (cases h; exact Val.here hS (v' := .bool false) (by simp [hg, hb.1]) (.flat rfl))
            | (cases h; exact Val.here hS (v' := .bool true) (by simp [hg, hb.2]) (.flat rfl))
        · cases h
  · cases h
end
end Go.Am
