/- What the model's run of an operation comes to: all of them at once. -/
import Derived.Test.YtbhiilfifandhaaAm14
set_option linter.unusedVariables false
set_option linter.unusedSimpArgs false
set_option linter.unusedSectionVars false
namespace Go.Am

theorem func_inv {ρ : Inj} {g : FuncId} {fi ca : List Value} {v' : Value} (h : VRel ρ (.func (.func g) ⟨fi⟩ ⟨ca⟩) v') : ∃ fi' ca', v' = .func (.func g) ⟨fi'⟩ ⟨ca'⟩ ∧ LRel ρ fi fi' ∧ LRel ρ ca ca' := by
  cases h with
  | flat h => simp [flat] at h
  | func h1 h2 h3 h4 => exact ⟨_, _, rfl, ⟨h1, h2⟩, ⟨h3, h4⟩⟩
theorem target_eq {E : Env} {tmps : List Value} {f : Operand} {args : List Operand} {g : FuncId} {xs : List Value} (h : target E tmps f args = some (g, xs)) :
    ∃ fi ca ys fn c, eval E tmps f = some (.func (.func g) ⟨fi⟩ ⟨ca⟩) ∧ evalL E tmps args = some ys ∧ xs = fi ++ ys ++ ca ∧ get E.funcs g = some fn ∧ fn.body = some c := by
  unfold target at h
  split at h
  · rename_i g' fi ca ys h1 h2
    split at h
    · rename_i fn hf
      split at h
      · rename_i c hc
        cases h
        exact ⟨fi, ca, ys, fn, c, h1, h2, rfl, hf, hc⟩
      · cases h
    · cases h
  · cases h

/-! Steps that are no calls. -/
theorem alloc_val {E : Env} {t : TypeId} {st : St} {f : FuncId} {xs : List Value} (h : stepAlloc E t st = some (.call f xs)) : False := by
  unfold stepAlloc at h; repeat' (split at h)
  all_goals cases h
theorem box_val {E : Env} {tmps : List Value} {t : TypeId} {x : Operand} {st : St} {f : FuncId} {xs : List Value} (h : stepBox E tmps t x st = some (.call f xs)) : False := by
  unfold stepBox at h; repeat' (split at h)
  all_goals cases h
theorem buildSlice_val {E : Env} {tmps : List Value} {t : TypeId} {n : Nat} {ps : Array (Nat × Operand)} {st : St} {f : FuncId} {xs : List Value} (h : stepBuildSlice E tmps t n ps st = some (.call f xs)) : False := by
  unfold stepBuildSlice at h; repeat' (split at h)
  all_goals cases h
theorem store_val {E : Env} {tmps : List Value} {t : TypeId} {x y : Operand} {st : St} {f : FuncId} {xs : List Value} (h : stepStore E tmps t x y st = some (.call f xs)) : False := by
  unfold stepStore at h; repeat' (split at h)
  all_goals cases h
theorem convert_val {E : Env} {tmps : List Value} {s d : TypeId} {x : Operand} {st : St} {f : FuncId} {xs : List Value} (h : stepConvert E tmps s d x st = some (.call f xs)) : False := by
  unfold stepConvert at h
  split at h
  · unfold convertOp at h
    repeat' (split at h)
    all_goals first
      | (cases h; done)
      | (obtain ⟨_, _, h⟩ := Option.map_eq_some_iff.1 h; cases h; done)
      | (obtain ⟨_, _, h⟩ := ret_eq h; cases h; done)
  · cases h
theorem makeMap_val {r : Option Operand} {st : St} {f : FuncId} {xs : List Value} (h : stepMakeMap r st = some (.call f xs)) : False := by
  unfold stepMakeMap at h; repeat' (split at h)
  all_goals cases h
theorem makeSlice_val {E : Env} {tmps : List Value} {t : TypeId} {x y : Operand} {st : St} {f : FuncId} {xs : List Value} (h : stepMakeSlice E tmps t x y st = some (.call f xs)) : False := by
  unfold stepMakeSlice at h; repeat' (split at h)
  all_goals cases h
theorem mapUpdate_val {E : Env} {tmps : List Value} {t : TypeId} {x y z : Operand} {st : St} {f : FuncId} {xs : List Value} (h : stepMapUpdate E tmps t x y z st = some (.call f xs)) : False := by
  unfold stepMapUpdate at h; repeat' (split at h)
  all_goals cases h
theorem range_val {E : Env} {tmps : List Value} {t : TypeId} {x : Operand} {st : St} {f : FuncId} {xs : List Value} (h : stepRange E tmps t x st = some (.call f xs)) : False := by
  unfold stepRange at h; repeat' (split at h)
  all_goals cases h
theorem next_val {E : Env} {tmps : List Value} {x : Operand} {b : Bool} {st : St} {f : FuncId} {xs : List Value} (h : stepNext E tmps x b st = some (.call f xs)) : False := by
  unfold stepNext at h; repeat' (split at h)
  all_goals cases h

section
variable {E : Env} (hE : E.Ok) {ρ : Inj} {st : St} {w : World} (hS : SRel E ρ st w) {tmps : List Value} {a : Act}
include hE hS

theorem call_sound {c : Call} {ty : TypeId} {r : R} (hev : ∀ x, x ∈ c.operands → EvR E ρ tmps a x) (h : stepCall E tmps c ty st = some r) :
    Nx E ρ st w ((do let d ← resolve a.eval c ty; invoke d.target d.args : Sem Next).run E.P w) r := by
  have hargs : c.args.map a.eval = ⟨c.args.toList.map a.eval⟩ := Array.ext' (by simp)
  unfold stepCall at h
  split at h
  · rename_i b hc
    split at h
    · rename_i xs hxs
      have hrel := evalL_rel c.args.toList (fun x hx => hev x (by simp [Call.operands, hc]; simpa using hx)) hxs
      have := builtin_sound hE hS (consts := c.args.map fun | .const _ => true | _ => false) hrel h
      simp only [resolve, hc, hargs, Sem.run_bind, Sem.run_pure, Result.andThen_ok, invoke]
      exact this
    · cases h
  · rename_i f hc
    split at h
    · rename_i g xs ht
      cases h
      obtain ⟨fi, ca, ys, fn, cd, e1, e2, rfl, e3, e4⟩ := target_eq ht
      obtain ⟨fi', ca', e5, e6, e7⟩ := func_inv (hev f (by simp [Call.operands, hc]) _ e1)
      have hrel := evalL_rel c.args.toList (fun x hx => hev x (by simp [Call.operands, hc]; exact .inr (by simpa using hx))) e2
      refine ⟨fi' ++ c.args.toList.map a.eval ++ ca', fn, cd, ?_, (e6.append hrel).append e7, e3, e4⟩
      obtain ⟨hf, hn⟩ := hE.funcs g fn e3
      simp only [resolve, hc, e5, Deferred.ofValue, hargs, Sem.run_bind, Sem.run_pure, Result.andThen_ok, invoke, callFunc, run_program, hf, hn, e4, Bool.false_eq_true, if_false, Option.isNone_some]
      simp
    · cases h
  · cases h

theorem step0_sound {o : Oper} {r : R} (hev : ∀ x, x ∈ o.op.operands → EvR E ρ tmps a x) (h : step0 E tmps o st = some r) : Nx E ρ st w ((execOp a.eval o).run E.P w) r := by
  obtain ⟨dst, op, ty, pos, after, guard⟩ := o
  simp only at hev
  cases op <;> simp only [step0] at h <;> try (cases h; done)
  case move x =>
    obtain ⟨v, h1, rfl⟩ := ret_eq h
    exact ⟨_, _, w, ρ, rfl, .inl rfl, hev x (by simp [Op.operands]) v h1, hS.heap, Ext.refl ρ st w⟩
  case assign x =>
    obtain ⟨v, h1, rfl⟩ := ret_eq h
    exact ⟨_, _, w, ρ, rfl, .inl rfl, hev x (by simp [Op.operands]) v h1, hS.heap, Ext.refl ρ st w⟩
  case pick c x y =>
    obtain ⟨v, h1, rfl⟩ := ret_eq h
    obtain ⟨v', h2, h3⟩ := pick_sound hE hS (hev c (by simp [Op.operands])) (hev x (by simp [Op.operands])) (hev y (by simp [Op.operands])) h1
    exact ⟨_, v', w, ρ, h2, .inl rfl, h3, hS.heap, Ext.refl ρ st w⟩
  case alloc t => exact valNx hE hS h (fun f xs e => alloc_val (e ▸ h)) fun v st' h => alloc_sound hE hS h
  case box t x => exact valNx hE hS h (fun f xs e => box_val (e ▸ h)) fun v st' h => box_sound hE hS (hev x (by simp [Op.operands])) h
  case build t ps => exact pureNx hE hS h fun v h => build_sound hE hS (fun p hp => hev p.2 (by simp [Op.operands]; exact ⟨p.1, by simpa using hp⟩)) h
  case buildSlice t n ps => exact valNx hE hS h (fun f xs e => buildSlice_val (e ▸ h)) fun v st' h => buildSlice_sound hE hS (fun p hp => hev p.2 (by simp [Op.operands]; exact ⟨p.1, by simpa using hp⟩)) h
  case load t x => exact pureNx hE hS h fun v h => load_sound hE hS (hev x (by simp [Op.operands])) h
  case store t x y => exact unitNx hE hS h (fun f xs e => store_val (e ▸ h)) fun v st' h => store_sound hE hS (hev x (by simp [Op.operands])) (hev y (by simp [Op.operands])) h
  case nilCheck x =>
    obtain ⟨v, h1, rfl⟩ := ret_eq h
    obtain ⟨v', h2, h3⟩ := nilCheck_sound hE hS (o := ⟨dst, .nilCheck x, ty, pos, after, guard⟩) rfl (hev x (by simp [Op.operands])) h1
    exact ⟨_, v', w, ρ, h2, .inl rfl, h3, hS.heap, Ext.refl ρ st w⟩
  case binOp op t x y yt => exact pureNx hE hS h fun v h => bin_sound hE hS (hev x (by simp [Op.operands])) (hev y (by simp [Op.operands])) h
  case unOp op t x => exact pureNx hE hS h fun v h => un_sound hE hS (hev x (by simp [Op.operands])) h
  case convert s d x => exact valNx hE hS h (fun f xs e => convert_val (e ▸ h)) fun v st' h => convert_sound hE hS (hev x (by simp [Op.operands])) h
  case makeFunc fn fi ca => exact pureNx hE hS h fun v h => makeFunc_sound hE hS (fun x hx => hev x (by simp [Op.operands]; exact .inl (by simpa using hx))) (fun x hx => hev x (by simp [Op.operands]; exact .inr (by simpa using hx))) h
  case makeMap t r0 => exact valNx hE hS h (fun f xs e => makeMap_val (e ▸ h)) fun v st' h => makeMap_sound hE hS h
  case makeSlice t x y => exact valNx hE hS h (fun f xs e => makeSlice_val (e ▸ h)) fun v st' h => makeSlice_sound hE hS (hev x (by simp [Op.operands])) (hev y (by simp [Op.operands])) h
  case slice t x lo hi mx => exact pureNx hE hS h fun v h => slice_sound hE hS (hev x (by simp [Op.operands])) (fun y hy => hev y (by simp [Op.operands, hy])) (fun y hy => hev y (by simp [Op.operands, hy])) (fun y hy => hev y (by simp [Op.operands, hy])) h
  case fieldAddr s x f => exact pureNx hE hS h fun v h => fieldAddr_sound hE hS (hev x (by simp [Op.operands])) h
  case field s x f => exact pureNx hE hS h fun v h => field_sound hE hS (hev x (by simp [Op.operands])) h
  case indexAddr t x y => exact pureNx hE hS h fun v h => indexAddr_sound hE hS (hev x (by simp [Op.operands])) (hev y (by simp [Op.operands])) h
  case index t x y => exact pureNx hE hS h fun v h => index_sound hE hS (hev x (by simp [Op.operands])) (hev y (by simp [Op.operands])) h
  case lookup t x y ok => exact pureNx hE hS h fun v h => lookup_sound hE hS (hev x (by simp [Op.operands])) (hev y (by simp [Op.operands])) h
  case mapUpdate t x y z => exact unitNx hE hS h (fun f xs e => mapUpdate_val (e ▸ h)) fun v st' h => mapUpdate_sound hE hS (hev x (by simp [Op.operands])) (hev y (by simp [Op.operands])) (hev z (by simp [Op.operands])) h
  case insert t x y z => exact unitNx hE hS h (fun f xs e => mapUpdate_val (e ▸ h)) fun v st' h => mapUpdate_sound hE hS (hev x (by simp [Op.operands])) (hev y (by simp [Op.operands])) (hev z (by simp [Op.operands])) h
  case range t x => exact valNx hE hS h (fun f xs e => range_val (e ▸ h)) fun v st' h => range_sound hE hS (hev x (by simp [Op.operands])) h
  case next x b => exact valNx hE hS h (fun f xs e => next_val (e ▸ h)) fun v st' h => next_sound hE hS (hev x (by simp [Op.operands])) h
  case entry x => exact pureNx hE hS h fun v h => entry_sound hE hS (hev x (by simp [Op.operands])) h
  case extract x i => exact pureNx hE hS h fun v h => extract_sound hE hS (hev x (by simp [Op.operands])) h
  case call c => exact call_sound hE hS (fun x hx => hev x (by simpa [Op.operands] using hx)) h

theorem step_sound {o : Oper} {r : R} (hev : ∀ x, x ∈ o.op.operands → EvR E ρ tmps a x) (h : step E tmps o st = some r) : Nx E ρ st w ((execOp a.eval o).run E.P w) r := by
  unfold step at h
  split at h
  · rename_i v hv
    cases h
    unfold known at hv
    split at hv
    · cases hv
    · rename_i f hf
      split at hv
      · rename_i vs hvs
        obtain ⟨v', h1, h2⟩ := hS.orc o.op f hf vs v hv ρ (Inj.le.refl ρ) o a.eval rfl (evalL_rel _ (fun x hx => hev x (by simpa using hx)) hvs) w
        exact ⟨_, v', w, ρ, h1, .inl rfl, h2, hS.heap, Ext.refl ρ st w⟩
      · cases hv
  · exact step0_sound hE hS hev h

theorem stepT_sound {o : Oper} {K : R → Prop} (hev : ∀ x, x ∈ o.op.operands → EvR E ρ tmps a x) (h : (stepT E tmps o st).All K) : ∃ r, K r ∧ Nx E ρ st w ((execOp a.eval o).run E.P w) r := by
  unfold stepT at h
  split at h
  · rename_i hm
    unfold isMapIter at hm
    split at hm
    · rename_i it ho
      rw [ho] at h hev
      simp only at h
      obtain ⟨v, st', hK, hv⟩ := nextMap_sound hE hS (ty := o.type) (hev it (by simp [Op.operands])) h
      refine ⟨_, hK, ?_⟩
      have := hv.nx
      unfold execOp
      rw [ho]
      exact this
    · cases hm
  · obtain ⟨r, hr, hK⟩ := T.All_of h
    exact ⟨r, hK, step_sound hE hS hev hr⟩
end
end Go.Am
