/- What the model's run of an operation comes to, operation by operation: slices, fields, elements, iterators. -/
import Derived.Test.YtbhiilfifandhaaAm8
set_option linter.unusedVariables false
set_option linter.unusedSimpArgs false
set_option linter.unusedSectionVars false
namespace Go.Am

theorem ByteArray_get (s : ByteArray) (i : Nat) : s[i]? = s.data.toList[i]? := by
  rw [Array.getElem?_toList]
  by_cases h : i < s.size
  · rw [getElem?_pos s i h, getElem?_pos s.data i h]; rfl
  · rw [getElem?_neg s i h, getElem?_neg s.data i h]
theorem Env.size_get {E : Env} {t : TypeId} {n : Nat} (h : E.size t = some n) : ∃ ti, get E.types t = some ti ∧ ti.size = n := by
  unfold Env.size at h
  exact Option.map_eq_some_iff.1 h
theorem lastOf_eq (l : List Nat) : lastOf l = l.getLast? := by
  induction l with
  | nil => rfl
  | cons a r ih => cases r with
    | nil => rfl
    | cons b r => rw [lastOf, ih]; simp
theorem bornAt_rel {ρ : Inj} {b : Nat} (es : List MapEntry) : ∀ {es' : List MapEntry} {e : MapEntry}, ERel ρ es es' → bornAt b es = some e → ∃ e', es'.find? (fun x => x.born == b) = some e' ∧ VRel ρ e.key e'.key ∧ VRel ρ e.val e'.val := by
  induction es with
  | nil => intro es' e _ h; cases h
  | cons x r ih =>
    intro es' e hr h
    cases es' with
    | nil => have := hr.1; simp at this
    | cons x' r' =>
      obtain ⟨h1, h2, h3⟩ := hr.2 0 x x' rfl rfl
      unfold bornAt at h
      by_cases hb : x.born = b
      · have : Nat.beq x.born b = true := by simpa using hb
        rw [this, if_pos rfl] at h
        cases h
        exact ⟨x', by rw [List.find?_cons_of_pos]; rw [← h3]; simpa using hb, h1, h2⟩
      · have : Nat.beq x.born b = false := by rw [Bool.eq_false_iff]; simpa using hb
        rw [this] at h
        simp only [Bool.false_eq_true, if_false] at h
        obtain ⟨e', g1, g2⟩ := ih (es' := r') ⟨by simpa using hr.1, fun j a a' ha ha' => hr.2 (j + 1) a a' (by simpa using ha) (by simpa using ha')⟩ h
        exact ⟨e', by rw [List.find?_cons_of_neg]; exact g1; rw [← h3]; simpa using hb, g2⟩

section
variable {E : Env} (hE : E.Ok) {ρ : Inj} {st : St} {w : World} (hS : SRel E ρ st w) {tmps : List Value} {a : Act}
include hE hS

theorem slice_sound {t : TypeId} {x : Operand} {lo hi mx : Option Operand} {v : Value} (hx : EvR E ρ tmps a x) (hl : ∀ y, lo = some y → EvR E ρ tmps a y) (hh : ∀ y, hi = some y → EvR E ρ tmps a y)
    (hm : ∀ y, mx = some y → EvR E ρ tmps a y) (h : stepSlice E tmps t x lo hi mx st = some v) : Val E ρ st w ((Instr.sliceAt t (a.eval x) (lo.map a.eval) (hi.map a.eval) (mx.map a.eval)).run E.P w) v st := by
  unfold stepSlice at h
  split at h
  case h_2 => cases h
  rename_i u vl vh vm e1 e2 e3 e4
  have rl := evalO_rel hl e2
  have rh := evalO_rel hh e3
  have rm := evalO_rel hm e4
  generalize lo.map a.eval = ul at rl ⊢
  generalize hi.map a.eval = uh at rh ⊢
  generalize mx.map a.eval = um at rm ⊢
  unfold sliceOp at h
  split at h
  · rename_i s hk
    obtain ⟨d, hd, hk'⟩ := hE.kd hk
    obtain rfl := kdOf_string hk'
    rw [(hx _ e1).same rfl]
    split at h
    · cases h
    · split at h
      · cases h
      · rename_i hiN hhi
        split at h
        · cases h
        · rename_i loN hlo
          cases h
          rcases rm with ⟨_, rfl⟩ | ⟨_, _, hne, _⟩
          case inr => cases hne
          obtain ⟨hb, _⟩ := bounds_run (P := E.P) (len := s.size) (cap := s.size) (cap' := s.size) (m := s.size) w false (Nat.le_refl _) (vm := none) rfl (by cases vh <;> exact hhi) hlo rl rh (.inl ⟨rfl, rfl⟩)
          refine Val.here hS ?_ (.flat rfl)
          simp [Instr.sliceAt, am_underlying w hd, Instr.slice, hb]
  · rename_i elem b len cap hk
    obtain ⟨d, hd, hk'⟩ := hE.kd hk
    obtain rfl := kdOf_slice hk'
    split at h
    · cases h
    · rename_i m hm1
      split at h
      · cases h
      · rename_i hiN hhi
        split at h
        · cases h
        · rename_i loN hlo
          split at h
          · rename_i size b' hsz
            split at h
            · rename_i hfit
              cases h
              obtain ⟨i, hi1, hi2⟩ := hE.size hsz
              obtain ⟨rb, ro, cap', he, q1, q2, q3, q4⟩ := slice_inv (hx _ e1)
              rw [he]
              obtain ⟨hb, hb1, hb2, hb3, hb4⟩ := bounds_run (P := E.P) (len := len) (cap := cap) (cap' := cap') w true q2 hm1 hhi hlo rl rh rm
              have hhm : hiN ≤ m := by
                cases hvh : vh with
                | some y => exact hb3 (by rw [hvh]; rfl)
                | none =>
                  cases hvm : vm with
                  | some y => rw [hvh, hvm] at hhi; cases hhi
                  | none =>
                    rw [hvh, hvm] at hhi
                    simp only [Option.some.injEq] at hhi
                    have := hb2 hvm
                    omega
              have hmc : m ≤ (if vm.isSome then m else cap') := by
                split
                · exact Nat.le_refl _
                · rename_i hvm
                  have := hb2 (by simpa using hvm)
                  omega
              generalize hM : (if vm.isSome then m else cap') = M at hb hmc
              refine Val.here hS (v' := .slice (if M = loN then some ⟨rb, ro, none⟩ else some ⟨rb, ro + loN * size, none⟩) (hiN - loN) (M - loN)) ?_ ?_
              · simp only [Instr.sliceAt, Sem.run_bind, am_underlying w hd, Result.andThen_ok, Instr.slice, hb, am_sizeOf w hi1, hi2, Sem.run_pure, Option.map_some, add_none]
              · by_cases hMl : M = loN
                · rw [if_pos hMl]
                  have z1 : hiN - loN = 0 := by omega
                  have z2 : m - loN = 0 := by omega
                  have z3 : M - loN = 0 := by omega
                  rw [z1, z2, z3]
                  exact .empty
                · rw [if_neg hMl]
                  rcases q4 with ⟨m0, hm0, rfl, rfl, q5⟩ | ⟨z1, z2, z3⟩
                  · rw [show m0.off + b'.off + loN * size = m0.off + (b'.off + loN * size) by omega]
                    cases hvm : vm.isSome with
                    | true =>
                      rw [hvm] at hM
                      simp only [if_true] at hM
                      subst hM
                      simp only [if_true]
                      exact .shut hm0 (by omega)
                    | false =>
                      rw [hvm] at hM
                      simp only [Bool.false_eq_true, if_false] at hM
                      subst hM
                      simp only [Bool.false_eq_true, if_false]
                      have hmcap : m = cap := hb2 (by simpa using hvm)
                      cases hsp : b'.spot with
                      | some k =>
                        have : cap' = cap := q3 (by rw [hsp]; rfl)
                        rw [this, ← hmcap]
                        exact .shut hm0 (by omega)
                      | none =>
                        have hroom := q5 hsp
                        have hsize : size = m0.sz := by
                          unfold fits at hfit
                          rw [hsp] at hfit
                          simp only at hfit
                          split at hfit
                          · rename_i o cs t' hc
                            obtain ⟨m1, c, t1, fr, g1, g2, g3, g4, g5⟩ := hS.heap.blk _ _ _ (cellsAt_eq hc)
                            rw [hm0] at g1
                            cases g1
                            have : t' = elem := by simpa using hfit
                            subst this
                            obtain ⟨ti, k1, k2⟩ := Env.size_get hsz
                            rw [← k2]; exact g4 ti k1
                          · cases hfit
                        refine .opens hm0 (by omega) (by omega) ?_
                        have : loN * size + (cap' - loN) * m0.sz = cap' * m0.sz := by
                          rw [hsize, ← Nat.add_mul]
                          congr 1
                          omega
                        omega
                  · exfalso
                    subst z1 z2 z3
                    have : M = 0 := by
                      rw [← hM]
                      split
                      · rename_i hvm; have := hb4 hvm; omega
                      · rfl
                    omega
            · cases h
          · rename_i size hsz
            cases h
            obtain ⟨i, hi1, hi2⟩ := hE.size hsz
            obtain ⟨rfl, rfl, he⟩ := nil_inv (hx _ e1)
            rw [he]
            obtain ⟨hb, hb1, hb2, hb3, hb4⟩ := bounds_run (P := E.P) (len := 0) (cap := 0) (cap' := 0) w true (Nat.le_refl _) hm1 hhi hlo rl rh rm
            have hm0 : m = 0 := by
              cases hvm : vm with
              | some y => have := hb4 (by rw [hvm]; rfl); omega
              | none => exact hb2 hvm
            have hh0 : hiN = 0 := by
              cases hvh : vh with
              | some y => have := hb3 (by rw [hvh]; rfl); omega
              | none =>
                cases hvm : vm with
                | some y => rw [hvh, hvm] at hhi; cases hhi
                | none => rw [hvh, hvm] at hhi; simp only [Option.some.injEq] at hhi; omega
            have hl0 : loN = 0 := by omega
            subst hm0 hh0 hl0
            have hM : (if vm.isSome then 0 else 0) = 0 := by split <;> rfl
            rw [hM] at hb
            refine Val.here hS (v' := .slice none 0 0) ?_ (.flat rfl)
            simp only [Instr.sliceAt, Sem.run_bind, am_underlying w hd, Result.andThen_ok, Instr.slice, hb, am_sizeOf w hi1, Sem.run_pure]
            rfl
          · cases h
  · rename_i n elem b off hk
    obtain ⟨d, hd, hk'⟩ := hE.kd hk
    obtain rfl := kdOf_array hk'
    split at h
    · cases h
    · rename_i m hm1
      split at h
      · cases h
      · rename_i hiN hhi
        split at h
        · cases h
        · rename_i loN hlo
          split at h
          · rename_i size hsz
            cases h
            obtain ⟨i, hi1, hi2⟩ := hE.size hsz
            obtain ⟨_, m0, hm0, he⟩ := ptr_inv hE hS (hx _ e1)
            rw [he]
            obtain ⟨hb, hb1, hb2, hb3, hb4⟩ := bounds_run (P := E.P) (len := n) (cap := n) (cap' := n) w false (Nat.le_refl _) hm1 hhi hlo rl rh rm
            have hM : (if vm.isSome then m else n) = m := by
              split
              · rfl
              · rename_i hvm; exact (hb2 (by simpa using hvm)).symm
            rw [hM] at hb
            have hhm : hiN ≤ m := by
              cases hvh : vh with
              | some y => exact hb3 (by rw [hvh]; rfl)
              | none =>
                cases hvm : vm with
                | some y => rw [hvh, hvm] at hhi; cases hhi
                | none =>
                  rw [hvh, hvm] at hhi
                  simp only [Option.some.injEq] at hhi
                  have := hb2 hvm
                  omega
            refine Val.here hS (v' := .slice (some (if m = loN then ⟨m0.blk, m0.off + off, none⟩ else ⟨m0.blk, m0.off + off + loN * size, none⟩)) (hiN - loN) (m - loN)) ?_ ?_
            · simp only [Instr.sliceAt, Sem.run_bind, am_underlying w hd, Result.andThen_ok, Instr.sureAddr, hb, am_sizeOf w hi1, hi2, Sem.run_pure, add_none]
            · by_cases hMl : m = loN
              · rw [if_pos hMl]
                have z1 : hiN - loN = 0 := by omega
                have z2 : m - loN = 0 := by omega
                rw [z1, z2]
                exact .empty
              · rw [if_neg hMl, show m0.off + off + loN * size = m0.off + (off + loN * size) by omega]
                exact .shut hm0 (by omega)
          · cases h
  · cases h

omit hS in
theorem field_get {s : TypeId} {fs : List (Nat × TypeId)} {f o : Nat} {t : TypeId} (hk : E.kd s = some (.struct fs)) (hf : get fs f = some (o, t)) :
    ∃ gs g, E.P.underlying s = some (.struct gs) ∧ gs[f]? = some g ∧ g.offset = o ∧ g.type = t := by
  obtain ⟨d, hd, hk'⟩ := hE.kd hk
  obtain ⟨gs, rfl, rfl⟩ := kdOf_struct hk'
  rw [get_eq, List.getElem?_map] at hf
  obtain ⟨g, h1, h2⟩ := Option.map_eq_some_iff.1 hf
  cases h2
  exact ⟨gs, g, hd, by simpa using h1, rfl, rfl⟩
theorem fieldAddr_sound {s : TypeId} {x : Operand} {f : Nat} {v : Value} (hx : EvR E ρ tmps a x) (h : stepFieldAddr E tmps s x f = some v) : Val E ρ st w ((Instr.fieldAt s (a.eval x) f).run E.P w) v st := by
  unfold stepFieldAddr at h
  split at h
  · rename_i b off fs h1 h2
    split at h
    · rename_i o t hf
      split at h
      · rename_i k hsz
        cases h
        obtain ⟨gs, g, hd, hg, rfl, rfl⟩ := field_get hE h2 hf
        obtain ⟨i, hi1, hi2⟩ := hE.size hsz
        obtain ⟨_, m0, hm0, he⟩ := ptr_inv hE hS (hx _ h1)
        rw [he]
        refine Val.here hS (v' := .pointer (some ⟨m0.blk, m0.off + off + g.offset, none⟩)) ?_ ?_
        · simp [Instr.fieldAt, am_underlying w hd, hg, Instr.sureAddr, fieldPlace, am_sizeOf w hi1, hi2, add_none]
        · rw [Nat.add_assoc]; exact .ptr hm0
      · cases h
    · cases h
  · cases h
omit hS in
theorem part_run {t : TypeId} {cs cs' : List Value} {off : Nat} {v : Value} (hr : LRel ρ cs cs') (h : part E t cs off = some v) (w : World) : ∃ v', (Go.part t ⟨cs'⟩ off).run E.P w = .ok v' w ∧ VRel ρ v v' := by
  unfold part at h
  split at h
  · rename_i ti hti
    obtain ⟨i, d, hi, hd, rfl⟩ := hE.ti hti
    split at h
    · rename_i hagg
      cases h
      refine ⟨.agg ⟨(cs'.drop off).take i.size⟩, ?_, VRel.mk_agg ((hr.drop off).take i.size)⟩
      have hagg' : (kdOf d).agg = true := hagg
      simp only [Go.part, Sem.run_bind, am_isAgg w hd, Result.andThen_ok, hagg', if_true, am_sizeOf w hi, Sem.run_pure]
      congr 2
      apply Array.ext'
      simp
    · rename_i hagg
      have hagg' : (kdOf d).agg = false := by simpa using hagg
      rw [get_eq] at h
      obtain ⟨v', h1, h2⟩ := hr.get h
      refine ⟨v', ?_, h2⟩
      simp [Go.part, am_isAgg w hd, hagg', h1]
  · cases h
theorem field_sound {s : TypeId} {x : Operand} {f : Nat} {v : Value} (hx : EvR E ρ tmps a x) (h : stepField E tmps s x f = some v) : Val E ρ st w ((Instr.field s (a.eval x) f).run E.P w) v st := by
  unfold stepField at h
  split at h
  · rename_i cs fs h1 h2
    split at h
    · rename_i o t hf
      obtain ⟨gs, g, hd, hg, rfl, rfl⟩ := field_get hE h2 hf
      obtain ⟨cs', he, hr⟩ := agg_inv (hx _ h1)
      rw [he]
      obtain ⟨v', h3, h4⟩ := part_run hE hr h w
      exact Val.here hS (by simp [Instr.field, am_underlying w hd, hg, asAgg, h3]) h4
    · cases h
  · cases h
theorem indexAddr_sound {t : TypeId} {x y : Operand} {v : Value} (hx : EvR E ρ tmps a x) (hy : EvR E ρ tmps a y) (h : stepIndexAddr E tmps t x y = some v) : Val E ρ st w ((Instr.indexAt t (a.eval x) (a.eval y)).run E.P w) v st := by
  unfold stepIndexAddr at h
  split at h
  · rename_i b n cap k i elem h1 h2 h3
    rw [(hy _ h2).same rfl]
    obtain ⟨d, hd, hk'⟩ := hE.kd h3
    obtain rfl := kdOf_slice hk'
    split at h
    · rename_i size hsz
      obtain ⟨ti, hi1, hi2⟩ := hE.size hsz
      split at h
      · rename_i hlt
        cases h
        have hlt' : i < n := (blt_iff _ _).1 hlt
        obtain ⟨rb, ro, cap', he, q1, q2, q3, q4⟩ := slice_inv (hx _ h1)
        rw [he]
        rcases q4 with ⟨m0, hm0, rfl, rfl, _⟩ | ⟨z1, _⟩
        · refine Val.here hS (v' := .pointer (some ⟨m0.blk, m0.off + b.off + i * size, none⟩)) ?_ ?_
          · simp [Instr.indexAt, Go.asIntOf, am_underlying w hd, am_sizeOf w hi1, hi2, add_none, hlt']
          · rw [Nat.add_assoc]; exact .ptr hm0
        · omega
      · cases h
    · cases h
  · rename_i b off k i n elem h1 h2 h3
    rw [(hy _ h2).same rfl]
    obtain ⟨d, hd, hk'⟩ := hE.kd h3
    obtain rfl := kdOf_array hk'
    split at h
    · rename_i size hsz
      obtain ⟨ti, hi1, hi2⟩ := hE.size hsz
      split at h
      · rename_i hlt
        cases h
        have hlt' : i < n := (blt_iff _ _).1 hlt
        obtain ⟨_, m0, hm0, he⟩ := ptr_inv hE hS (hx _ h1)
        rw [he]
        refine Val.here hS (v' := .pointer (some ⟨m0.blk, m0.off + off + i * size, none⟩)) ?_ ?_
        · simp [Instr.indexAt, Go.asIntOf, am_underlying w hd, am_sizeOf w hi1, hi2, add_none, hlt', Instr.sureAddr]
        · rw [Nat.add_assoc]; exact .ptr hm0
      · cases h
    · cases h
  · cases h
theorem index_sound {t : TypeId} {x y : Operand} {v : Value} (hx : EvR E ρ tmps a x) (hy : EvR E ρ tmps a y) (h : stepIndex E tmps t x y = some v) : Val E ρ st w ((Instr.index t (a.eval x) (a.eval y)).run E.P w) v st := by
  unfold stepIndex at h
  split at h
  · rename_i s k i h1 h2 h3
    rw [(hx _ h1).same rfl, (hy _ h2).same rfl]
    obtain ⟨d, hd, hk'⟩ := hE.kd h3
    obtain rfl := kdOf_string hk'
    split at h
    · rename_i b hb
      cases h
      rw [get_eq, ← ByteArray_get] at hb
      exact Val.here hS (by simp [Instr.index, Go.asIntOf, am_underlying w hd, hb]) (.flat rfl)
    · cases h
  · rename_i cs k i n elem h1 h2 h3
    rw [(hy _ h2).same rfl]
    obtain ⟨d, hd, hk'⟩ := hE.kd h3
    obtain rfl := kdOf_array hk'
    split at h
    · rename_i size hsz
      obtain ⟨ti, hi1, hi2⟩ := hE.size hsz
      split at h
      · rename_i hlt
        have hlt' : i < n := (blt_iff _ _).1 hlt
        obtain ⟨cs', he, hr⟩ := agg_inv (hx _ h1)
        rw [he]
        obtain ⟨v', h4, h5⟩ := part_run hE hr h w
        refine Val.here hS ?_ h5
        simp [Instr.index, Go.asIntOf, am_underlying w hd, am_sizeOf w hi1, hi2, hlt', h4]
      · cases h
    · cases h
  · cases h
theorem extract_sound {x : Operand} {i : Nat} {v : Value} (hx : EvR E ρ tmps a x) (h : stepExtract E tmps x i = some v) : Val E ρ st w ((Instr.extract (a.eval x) i).run E.P w) v st := by
  unfold stepExtract at h
  split at h
  · rename_i vs h1
    obtain ⟨cs', he, hr⟩ := tuple_inv (hx _ h1)
    rw [he]
    rw [get_eq] at h
    obtain ⟨v', h2, h3⟩ := hr.get h
    exact Val.here hS (by simp [Instr.extract, h2]) h3
  · cases h
theorem pick_sound {c x y : Operand} {v : Value} (hc : EvR E ρ tmps a c) (hx : EvR E ρ tmps a x) (hy : EvR E ρ tmps a y) (h : stepPick E tmps c x y = some v) :
    ∃ v', (do pure (Next.value (if ← asBool (a.eval c) then a.eval x else a.eval y)) : Sem Next).run E.P w = .ok (.value v') w ∧ VRel ρ v v' := by
  unfold stepPick at h
  split at h
  · rename_i b u1 u2 h1 h2 h3
    cases h
    rw [(hc _ h1).same rfl]
    cases b
    · exact ⟨_, by simp [asBool], hy _ h3⟩
    · exact ⟨_, by simp [asBool], hx _ h2⟩
  · cases h
theorem range_sound {t : TypeId} {x : Operand} {v : Value} {st' : St} (hx : EvR E ρ tmps a x) (h : stepRange E tmps t x st = some (.val v st')) : Val E ρ st w ((Instr.range t (a.eval x)).run E.P w) v st' := by
  unfold stepRange at h
  split at h
  · rename_i s h1 h2
    cases h
    obtain ⟨d, hd, hk'⟩ := hE.kd h2
    obtain rfl := kdOf_string hk'
    rw [(hx _ h1).same rfl]
    obtain ⟨g1, g2⟩ := new_rel hS (.strIter s 0) ⟨w.heap.size, 0, 0, 0, undef⟩ (.stringIter s 0) rfl ⟨_, Inj.upd_same _ _ _, rfl, heap_alloc_new w _⟩
    exact ⟨.pointer (some ⟨w.heap.size, 0, none⟩), _, _, by simp [Instr.range, am_underlying w hd], VRel.ptr (off := 0) (Inj.upd_same _ _ _), g1, g2⟩
  · rename_i kt et h1 h2
    cases h
    obtain ⟨d, hd, hk'⟩ := hE.kd h2
    obtain rfl := kdOf_map hk'
    rw [(hx _ h1).same rfl]
    obtain ⟨g1, g2⟩ := new_rel hS (.mapIter none 0 [] 0) ⟨w.heap.size, 0, 0, 0, undef⟩ (.mapIter none 0 #[] 0) rfl ⟨_, none, #[], Inj.upd_same _ _ _, rfl, heap_alloc_new w _, rfl, trivial⟩
    exact ⟨.pointer (some ⟨w.heap.size, 0, none⟩), _, _, by simp [Instr.range, am_underlying w hd], VRel.ptr (off := 0) (Inj.upd_same _ _ _), g1, g2⟩
  · rename_i m kt et h1 h2
    obtain ⟨d, hd, hk'⟩ := hE.kd h2
    obtain rfl := kdOf_map hk'
    split at h
    · rename_i o es cl hm
      cases h
      obtain ⟨m0, es', q1, q2, q3⟩ := hS.heap.blk _ _ _ (mapAt_eq hm)
      obtain ⟨m1, hm1, he⟩ := map_inv (hx _ h1)
      rw [q1] at hm1
      cases hm1
      rw [he]
      have hne : m ≠ st.next := fun e => by rw [e, hS.fresh _ (Nat.le_refl _)] at q1; cases q1
      obtain ⟨g1, g2⟩ := new_rel hS (.mapIter (some m) cl [] cl) ⟨w.heap.size, 0, 0, 0, undef⟩ (.mapIter (some m0.blk) cl #[] cl) rfl
        ⟨_, some m0.blk, #[], Inj.upd_same _ _ _, rfl, heap_alloc_new w _, rfl, m0, by simp [Inj.upd, hne, q1], rfl⟩
      exact ⟨.pointer (some ⟨w.heap.size, 0, none⟩), _, _, by simp [Instr.range, am_underlying w hd, getObj, Sem.run, q2], VRel.ptr (off := 0) (Inj.upd_same _ _ _), g1, g2⟩
    · cases h
  · cases h
theorem next_sound {x : Operand} {b : Bool} {t : TypeId} {v : Value} {st' : St} (hx : EvR E ρ tmps a x) (h : stepNext E tmps x b st = some (.val v st')) : Val E ρ st w ((Instr.next (a.eval x) b t).run E.P w) v st' := by
  unfold stepNext at h
  split at h
  · rename_i r h1
    obtain ⟨_, m0, hm0, he⟩ := ptr_inv hE hS (hx _ h1)
    rw [he]
    split at h
    · rename_i s pos hr
      obtain ⟨m1, q1, q0, q2⟩ := hS.heap.blk _ _ _ hr
      rw [hm0] at q1
      cases q1
      split at h
      · rename_i hlt
        cases h
        have hlt' : pos < s.size := (blt_iff _ _).1 hlt
        have hb := (Array.getElem?_eq_some_iff.1 q2).1
        obtain ⟨g1, g2⟩ := set_rel (w' := w.setBlk m0.blk (.stringIter s (pos + (Utf8.decode s pos).2))) (b' := .strIter s (pos + (Utf8.decode s pos).2)) hS hr hm0 ⟨m0, hm0, q0, setBlk_same hb⟩ (fun r hr => setBlk_other hr) (by simp) rfl rfl rfl
        refine ⟨_, _, ρ, ?_, .flat ?_, g1, g2⟩
        · simp only [Instr.next, getObj, Sem.run_bind, Sem.run, q0, q2, Result.andThen_ok, hlt', if_true, setObj]
          simp [q2, Sem.run]
          exact ⟨rfl, rfl⟩
        · rfl
      · rename_i hlt
        cases h
        have hlt' : ¬ pos < s.size := fun e => hlt ((blt_iff _ _).2 e)
        refine Val.here hS (v' := .tuple #[.bool false]) ?_ (.flat rfl)
        simp [Instr.next, getObj, Sem.run, q0, q2, hlt']
    · rename_i o s1 s2 s3 hr
      cases h
      obtain ⟨m1, mm', seen', q1, q0, q2, q3, q4⟩ := hS.heap.blk _ _ _ hr
      rw [hm0] at q1
      cases q1
      cases mm' with
      | some x => exact q4.elim
      | none =>
        refine Val.here hS (v' := .tuple #[.bool false]) ?_ (.flat rfl)
        simp [Instr.next, getObj, Sem.run, q0, q2]
    · cases h
  · cases h
theorem entry_sound {x : Operand} {v : Value} (hx : EvR E ρ tmps a x) (h : stepEntry E tmps x st = some v) : Val E ρ st w ((Instr.entry (a.eval x)).run E.P w) v st := by
  unfold stepEntry at h
  split at h
  · rename_i r h1
    obtain ⟨_, m0, hm0, he⟩ := ptr_inv hE hS (hx _ h1)
    rw [he]
    split at h
    · rename_i o mm since seen stepped hr
      obtain ⟨m1, mm', seen', q1, q0, q2, q3, q4⟩ := hS.heap.blk _ _ _ hr
      rw [hm0] at q1
      cases q1
      cases mm' with
      | none => exact q4.elim
      | some bb =>
        obtain ⟨m2, q5, rfl⟩ := q4
        split at h
        · rename_i b o2 es clock hl hm
          obtain ⟨m3, es', r1, r2, r3⟩ := hS.heap.blk _ _ _ (mapAt_eq hm)
          rw [q5] at r1
          cases r1
          split at h
          · rename_i hc
            have hc' : clock = stepped := by simpa using hc
            subst hc'
            split at h
            · rename_i e hbe
              cases h
              obtain ⟨e', k1, k2, k3⟩ := bornAt_rel es r3 hbe
              have hback : seen'.back? = some b := by
                rw [lastOf_eq, ← q3] at hl
                rw [← hl]
                simp
              have hfind : es'.find? (fun x => x.born == b) = some e' := by
                rw [← Array.find?_toList]; exact k1
              refine Val.here hS (v' := .tuple #[e'.key, e'.val]) ?_ (VRel.mk_tuple (((LRel.nil ρ).cons k3).cons k2))
              simp [Instr.entry, getObj, Sem.run, q0, q2, r2, hback, hfind]
            · cases h
          · cases h
        · cases h
    · cases h
  · cases h
end
end Go.Am
