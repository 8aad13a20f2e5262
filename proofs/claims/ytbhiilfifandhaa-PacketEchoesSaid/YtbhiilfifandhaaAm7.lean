/- What the model's run of an operation comes to, operation by operation: conversions, makes, slices, fields, elements, iterators. -/
import Derived.Test.YtbhiilfifandhaaAm6
import Derived.Laws.BytesString
import Derived.Laws.AppendOwn
set_option linter.unusedVariables false
set_option linter.unusedSimpArgs false
set_option linter.unusedSectionVars false
namespace Go.Am

theorem range0 : Array.range 0 = #[] := Array.ext' (by simp)
theorem bound_eq {v : Value} {y n : Nat} (h : bound v y = some n) : ∃ k, v = .int k (n : Int) ∧ n ≤ y := by
  unfold bound at h
  split at h
  · rename_i k m
    cases m with
    | ofNat m =>
      simp only at h
      split at h
      · rename_i hb; cases h; exact ⟨k, rfl, by simpa using hb⟩
      · cases h
    | negSucc m => cases h
  · cases h
theorem sliceBound_run {P : Program} {k : IntKind} {n y : Nat} (h : n ≤ y) (c : BoundsCode) (w : World) : (Instr.sliceBound (.int k (n : Int)) y c).run P w = .ok n w := by
  have : (n : Int) ≤ (y : Int) := by omega
  simp [Instr.sliceBound, asIntOf, this]
theorem evalO_rel {E : Env} {ρ : Inj} {tmps : List Value} {a : Act} {x : Option Operand} {v : Option Value} (h : ∀ y, x = some y → EvR E ρ tmps a y) (e : evalO E tmps x = some v) :
    (v = none ∧ x.map a.eval = none) ∨ ∃ u u', v = some u ∧ x.map a.eval = some u' ∧ VRel ρ u u' := by
  cases x with
  | none => simp only [evalO, Option.some.injEq] at e; exact .inl ⟨e.symm, rfl⟩
  | some y =>
    simp only [evalO] at e
    obtain ⟨u, h1, h2⟩ := Option.map_eq_some_iff.1 e
    exact .inr ⟨u, _, h2.symm, rfl, h y rfl u h1⟩
/-- What the three bounds of a slice come to. -/
theorem bounds_run {P : Program} {ρ : Inj} (w : World) (isSlice : Bool) {len cap cap' m hi lo : Nat} {vl vh vm ul uh um : Option Value}
    (hc : cap ≤ cap')
    (hm : (match (generalizing := false) vm with | some v => bound v cap | none => some cap) = some m)
    (hh : (match (generalizing := false) vh, vm with | some v, _ => bound v m | none, none => some len | none, some _ => none) = some hi)
    (hl : (match (generalizing := false) vl with | some v => bound v hi | none => some 0) = some lo)
    (rl : (vl = none ∧ ul = none) ∨ ∃ u u', vl = some u ∧ ul = some u' ∧ VRel ρ u u') (rh : (vh = none ∧ uh = none) ∨ ∃ u u', vh = some u ∧ uh = some u' ∧ VRel ρ u u')
    (rm : (vm = none ∧ um = none) ∨ ∃ u u', vm = some u ∧ um = some u' ∧ VRel ρ u u') :
    (Instr.sliceBounds isSlice len cap' ul uh um).run P w = .ok (lo, hi, if vm.isSome then m else cap') w ∧ lo ≤ hi ∧ (vm = none → m = cap) ∧ (vh.isSome → hi ≤ m) ∧ (vm.isSome → m ≤ cap) := by
  have hlow : (ul = none ∧ lo = 0 ∧ vl = none) ∨ ∃ k, ul = some (.int k (lo : Int)) ∧ lo ≤ hi := by
    rcases rl with ⟨rfl, rfl⟩ | ⟨u, u', rfl, rfl, r⟩
    · simp only [Option.some.injEq] at hl; exact .inl ⟨rfl, hl.symm, rfl⟩
    · obtain ⟨k, rfl, hb⟩ := bound_eq hl
      exact .inr ⟨k, by rw [r.same rfl], hb⟩
  have hlo : lo ≤ hi := by rcases hlow with ⟨_, rfl, _⟩ | ⟨_, _, h⟩ <;> omega
  rcases rm with ⟨rfl, rfl⟩ | ⟨u, u', rfl, rfl, r⟩
  · simp only [Option.some.injEq] at hm
    subst hm
    rcases rh with ⟨rfl, rfl⟩ | ⟨x, x', rfl, rfl, r2⟩
    · simp only [Option.some.injEq] at hh
      subst hh
      refine ⟨?_, hlo, fun _ => rfl, by simp, by simp⟩
      rcases hlow with ⟨rfl, rfl, _⟩ | ⟨k, rfl, h⟩
      · simp [Instr.sliceBounds]
      · simp [Instr.sliceBounds, sliceBound_run h]
    · obtain ⟨k2, rfl, hb2⟩ := bound_eq hh
      rw [r2.same rfl]
      refine ⟨?_, hlo, fun _ => rfl, fun _ => hb2, by simp⟩
      rcases hlow with ⟨rfl, rfl, _⟩ | ⟨k, rfl, h⟩
      · simp [Instr.sliceBounds, sliceBound_run (Nat.le_trans hb2 hc)]
      · simp [Instr.sliceBounds, sliceBound_run (Nat.le_trans hb2 hc), sliceBound_run h]
  · obtain ⟨k3, rfl, hb3⟩ := bound_eq hm
    rw [r.same rfl]
    rcases rh with ⟨rfl, rfl⟩ | ⟨x, x', rfl, rfl, r2⟩
    · cases hh
    · obtain ⟨k2, rfl, hb2⟩ := bound_eq hh
      rw [r2.same rfl]
      refine ⟨?_, hlo, by simp, fun _ => hb2, fun _ => hb3⟩
      rcases hlow with ⟨rfl, rfl, _⟩ | ⟨k, rfl, h⟩
      · simp [Instr.sliceBounds, sliceBound_run (Nat.le_trans hb3 hc), sliceBound_run hb2]
      · simp [Instr.sliceBounds, sliceBound_run (Nat.le_trans hb3 hc), sliceBound_run hb2, sliceBound_run h]

section
variable {E : Env} (hE : E.Ok) {ρ : Inj} {st : St} {w : World} (hS : SRel E ρ st w) {tmps : List Value} {a : Act}
include hE hS

theorem un_sound {op : UnOp} {x : Operand} {v : Value} (hx : EvR E ρ tmps a x) (h : stepUn E tmps op x = some v) : Val E ρ st w ((Op.unary op (a.eval x)).run E.P w) v st := by
  unfold stepUn at h
  split at h
  · rename_i u hu
    split at h
    · rename_i hf
      rw [(hx _ hu).same hf]
      obtain ⟨hr, hfl⟩ := pureV_run h w
      exact Val.here hS hr (.flat hfl)
    · cases h
  · cases h
theorem makeFunc_sound {fn : Fn} {fi ca : Array Operand} {v : Value} (h1 : ∀ x, x ∈ fi.toList → EvR E ρ tmps a x) (h2 : ∀ x, x ∈ ca.toList → EvR E ρ tmps a x) (h : stepMakeFunc E tmps fn fi ca = some v) :
    Val E ρ st w ((Instr.makeFunc fn (fi.map a.eval) (ca.map a.eval)).run E.P w) v st := by
  unfold stepMakeFunc at h
  split at h
  · rename_i f us vs e1 e2
    cases h
    have r1 := evalL_rel _ h1 e1
    have r2 := evalL_rel _ h2 e2
    have q1 : fi.map a.eval = ⟨fi.toList.map a.eval⟩ := Array.ext' (by simp)
    have q2 : ca.map a.eval = ⟨ca.toList.map a.eval⟩ := Array.ext' (by simp)
    refine Val.here hS rfl ?_
    rw [q1, q2]
    exact .func r1.1 r1.2 r2.1 r2.2
  · cases h
theorem makeMap_sound {t : TypeId} {r : Option Operand} {v : Value} {st' : St} (h : stepMakeMap r st = some (.val v st')) : Val E ρ st w ((Instr.makeMap t (r.map a.eval)).run E.P w) v st' := by
  unfold stepMakeMap at h
  split at h
  · cases h
    have hle := Inj.upd_le ⟨w.heap.size, 0, 0, 0, undef⟩ (hS.fresh st.next (Nat.le_refl _))
    obtain ⟨h1, h2⟩ := new_rel hS (.map [] 0) ⟨w.heap.size, 0, 0, 0, undef⟩ (.map #[] 0) rfl ⟨_, #[], Inj.upd_same _ _ _, heap_alloc_new w _, rfl, by simp⟩
    exact ⟨_, _, _, by simp [Instr.makeMap], VRel.map (Inj.upd_same _ _ _), h1, h2⟩
  · cases h
omit hS in
theorem zeros_run {elem : TypeId} {ei : TI} (hei : get E.types elem = some ei) {n : Nat} {zs : List Value} (h : zerosOf ei n = some zs) (w : World) :
    flatL zs = true ∧ ((n * ei.size = 0 ∧ zs = []) ∨ (¬ (n * ei.size = 0) ∧ ∃ z, (zeroValue elem).run E.P w = .ok z w ∧ (Array.range (n * ei.size)).map (z.cells[· % z.cells.size]!) = ⟨zs⟩)) := by
  unfold zerosOf at h
  split at h
  · rename_i h0
    cases h
    have h0' : n * ei.size = 0 := by simpa using h0
    exact ⟨rfl, .inl ⟨h0', rfl⟩⟩
  · rename_i h0
    have h0' : ¬ n * ei.size = 0 := by simpa using h0
    split at h
    · rename_i z hz
      cases h
      have := hE.zeros elem ei z hei hz
      obtain ⟨i, d, hi, hd, rfl⟩ := hE.ti hei
      exact ⟨flatL_zeros (flat_cells this.1) n, .inr ⟨h0', z, am_zeroValue w hi hz, zeros_eq z.cells n _ this.2⟩⟩
    · cases h
theorem buildSlice_sound {t : TypeId} {n : Nat} {ps : Array (Nat × Operand)} {v : Value} {st' : St} (hx : ∀ p, p ∈ ps.toList → EvR E ρ tmps a p.2) (h : stepBuildSlice E tmps t n ps st = some (.val v st')) :
    Val E ρ st w ((Instr.buildSlice t n (ps.map fun p => (p.1, a.eval p.2))).run E.P w) v st' := by
  unfold stepBuildSlice at h
  split at h
  · rename_i vs elem h1 h2
    obtain ⟨d, hd, hk⟩ := hE.kd h2
    obtain rfl := kdOf_slice hk
    split at h
    · rename_i ei hei
      split at h
      · rename_i hle
        split at h
        · cases h
        · rename_i zs hzs
          split at h
          · rename_i cs hcs
            cases h
            obtain ⟨hfl, hz⟩ := zeros_run hE hei hzs w
            obtain ⟨i, d', hi, hd', rfl⟩ := hE.ti hei
            obtain ⟨cs', hcs', hrel⟩ := fill_rel _ vs (evalP_rel ps.toList hx h1) (LRel.flat (ρ := ρ) hfl) hcs
            have hfill := fill_eq _ _ _ hcs'
            obtain ⟨ρ', m, g1, g2, g3, g4, g5, g6, g7⟩ := new_cells hS cs elem elem ⟨cs'⟩ hrel.toArr
            have hps : (ps.map fun p => (p.1, a.eval p.2)).toList = ps.toList.map fun p => (p.1, a.eval p.2) := by simp
            have hle' : ¬ (n * i.size > 2 ^ 24) := by simp at hle ⊢; omega
            refine ⟨.slice (some ⟨w.heap.size, 0, none⟩) n n, _, ρ', ?_, ?_, g6, g7⟩
            · simp only [Instr.buildSlice, Sem.run_bind, am_underlying w hd, Result.andThen_ok, am_sizeOf w hi, hle', if_false, Sem.run_pure]
              rcases hz with ⟨h0, rfl⟩ | ⟨h0, z, hz1, hz2⟩
              · simp only at h0
                simp only [h0, if_true, Sem.run_bind, Sem.run_pure, Result.andThen_ok, hps]
                simp only [h0] at hfill
                rw [show (Array.range 0).map ((#[] : Array Value)[· % (#[] : Array Value).size]!) = ⟨[]⟩ from Array.ext' (by simp), hfill]
                rfl
              · simp only at h0 hz2
                simp only [h0, if_false, Sem.run_bind, hz1, Sem.run_pure, Result.andThen_ok, hps]
                rw [hz2, hfill]
                rfl
            · have := VRel.shut (off := 0) (len := n) (cap := n) (k := 0) g1 (Nat.le_refl _)
              rwa [g2, g3] at this
          · cases h
      · cases h
    · cases h
  · cases h
theorem makeSlice_sound {t : TypeId} {x y : Operand} {v : Value} {st' : St} (hx : EvR E ρ tmps a x) (hy : EvR E ρ tmps a y) (h : stepMakeSlice E tmps t x y st = some (.val v st')) :
    Val E ρ st w ((Instr.makeSlice t (a.eval x) (a.eval y)).run E.P w) v st' := by
  unfold stepMakeSlice at h
  split at h
  · rename_i l c elem h1 h2 h3
    rw [(hx _ h1).same rfl, (hy _ h2).same rfl]
    obtain ⟨d, hd, hk⟩ := hE.kd h3
    obtain rfl := kdOf_slice hk
    split at h
    · rename_i ei hei
      split at h
      · rename_i hcond
        simp only [Bool.and_eq_true, Nat.ble_eq, most] at hcond
        obtain ⟨⟨c1, c2⟩, c3⟩ := hcond
        split at h
        · cases h
        · rename_i zs hzs
          cases h
          obtain ⟨hfl, hz⟩ := zeros_run hE hei hzs w
          obtain ⟨i, d', hi, hd', rfl⟩ := hE.ti hei
          obtain ⟨ρ', m, g1, g2, g3, g4, g5, g6, g7⟩ := new_cells hS zs elem elem ⟨zs⟩ (LRel.flat hfl).toArr
          have w1 : IntKind.i64.wrap (Int.ofNat l) = (l : Int) := wrap_in (Int.natCast_nonneg l) (by show (l : Int) < _; omega)
          have w2 : IntKind.i64.wrap (Int.ofNat c) = (c : Int) := wrap_in (Int.natCast_nonneg c) (by show (c : Int) < _; omega)
          simp only at c3
          refine ⟨.slice (some ⟨w.heap.size, 0, none⟩) l c, _, ρ', ?_, ?_, g6, g7⟩
          · have q1 : ¬ ((c : Int) < 0) := by omega
            have q2 : ¬ ((l : Int) < 0) := by omega
            have q3 : ¬ ((l : Int) > (c : Int)) := by omega
            have q4 : ¬ ((i.bytes : Int) * (c : Int) > 2 ^ 48) := by
              have e1 : (i.bytes : Int) * (c : Int) = ((c * i.bytes : Nat) : Int) := by rw [Int.natCast_mul, Int.mul_comm]
              rw [e1]
              show ¬ (_ > (281474976710656 : Int))
              generalize c * i.bytes = k at c3
              omega
            simp only [Instr.makeSlice, Sem.run_bind, am_underlying w hd, Result.andThen_ok, Go.asInt, Go.asIntOf, Sem.run_pure, am_typeInfo w hi, w1, w2, q1, q2, q3, q4, decide_false, Bool.or_false, Bool.false_eq_true, if_false, or_false, run_askRoom, am_sizeOf w hi, Int.toNat_natCast]
            rcases hz with ⟨h0, rfl⟩ | ⟨h0, z, hz1, hz2⟩
            · simp only at h0
              simp [h0, newRow, range0]
            · simp only at h0 hz2
              simp [h0, hz1, hz2, newRow]
          · have := VRel.shut (off := 0) (len := l) (cap := c) (k := 0) g1 c1
            rwa [g2, g3] at this
      · cases h
    · cases h
  · cases h
end
end Go.Am
