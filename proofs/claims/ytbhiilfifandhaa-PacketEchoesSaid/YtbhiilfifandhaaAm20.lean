/- Regions whose order is drawn: every order comes to what the text's order comes to. -/
import Derived.Test.YtbhiilfifandhaaAm19
set_option linter.unusedVariables false
set_option linter.unusedSimpArgs false
set_option linter.unusedSectionVars false
namespace Go.Am

theorem mem_tmpsOf (t : Tmp) (xs : List Operand) (h : Operand.tmp t ∈ xs) : t ∈ tmpsOf xs := by
  induction xs with
  | nil => cases h
  | cons x r ih =>
    rcases List.mem_cons.1 h with h1 | h1
    · subst h1; simp [tmpsOf]
    · cases x <;> simp [tmpsOf, ih h1]
theorem mem_namesOf {ops : Array Oper} {o : Oper} {t : Tmp} (h : Operand.tmp t ∈ o.op.operands) : t ∈ namesOf ops o := by
  unfold namesOf
  exact List.mem_append_right _ (mem_tmpsOf t _ (by simpa using h))
theorem mem_guard {ops : Array Oper} {o : Oper} {j : Nat} {b : Bool} {d : Tmp} (h : o.guard = some (j, b)) (hd : (get ops.toList j).bind (·.dst) = some d) : d ∈ namesOf ops o := by
  unfold namesOf
  refine List.mem_append_left _ (List.mem_append_right _ ?_)
  rw [h]
  simp only [hd]
  simp [dstL]
/-- Some temporaries, in the machine and in the model. -/
def TRel (ns : List Tmp) (ρ : Inj) (tmps : List Value) (a : Act) : Prop := ∀ t, t ∈ ns → (get tmps t = none → a.tmps[t]? = none) ∧ ∀ v, get tmps t = some v → ∃ v', a.tmps[t]? = some v' ∧ VRel ρ v v'
theorem wanted_eq' {ρ : Inj} {ops : Array Oper} {tmps : List Value} {a : Act} {o : Oper} (h : TRel (namesOf ops o) ρ tmps a) (hgd : guardOk ops tmps o = true) : wanted ops tmps o = Region.wanted o (yielded ops a.tmps) := by
  unfold wanted Region.wanted
  unfold guardOk at hgd
  cases hg : o.guard with
  | none => rfl
  | some g =>
    obtain ⟨j, want⟩ := g
    rw [hg] at hgd
    simp only at hgd
    simp only [yielded]
    cases hd : (get ops.toList j).bind (·.dst) with
    | none =>
      have : (ops[j]?).bind (·.dst) = none := by rw [get_eq, Array.getElem?_toList] at hd; exact hd
      rw [this]
      simp
    | some d =>
      have : (ops[j]?).bind (·.dst) = some d := by rw [get_eq, Array.getElem?_toList] at hd; exact hd
      rw [this]
      rw [hd] at hgd
      simp only at hgd
      simp only [Option.bind_some]
      have ht := h d (mem_guard hg hd)
      cases hv : get tmps d with
      | none => rw [ht.1 hv]; rfl
      | some v =>
        obtain ⟨v', h1, h2⟩ := ht.2 v hv
        rw [h1]
        rw [hv] at hgd
        cases h2 with
        | @flat v hf => cases v <;> simp
        | tok h ho => simp at hgd
        | _ => simp
theorem ev_rel' {E : Env} {ρ : Inj} {ops : Array Oper} {tmps : List Value} {a : Act} {o : Oper} (h : TRel (namesOf ops o) ρ tmps a) (hg : Globs E ρ) (x : Operand) (hx : x ∈ o.op.operands) : EvR E ρ tmps a x := by
  intro v hv
  cases x with
  | tmp t =>
    simp only [eval] at hv
    obtain ⟨v', h1, h2⟩ := (h t (mem_namesOf hx)).2 v hv
    simp only [Act.eval, Array.getD_eq_getD_getElem?, h1, Option.getD_some]
    exact h2
  | const c =>
    simp only [eval] at hv
    split at hv
    · rename_i hf; cases hv; exact .flat hf
    · cases hv
  | global g =>
    simp only [eval] at hv
    split at hv
    · rename_i hlt
      cases hv
      obtain ⟨m, h1, h2, h3⟩ := hg g ((blt_iff _ _).1 hlt)
      have := VRel.ptr (off := 0) h1
      rw [h2, h3] at this
      exact this
    · cases hv
  | func f =>
    simp only [eval, Option.some.injEq] at hv
    subst hv
    exact .func rfl (by simp) rfl (by simp)
theorem find_only {ng : Nat} {f : List Nat} {h : Heap} {i : Nat} {e : Bool × Blk} (hf : find (only ng f h) i = some e) : (i < ng ∨ i ∈ f) ∧ find h i = some e := by
  unfold only at hf
  rw [find_filt] at hf
  split at hf
  · rename_i hc
    rw [Bool.or_eq_true] at hc
    exact ⟨hc.imp (blt_iff _ _).1 (mem_iff _ _).1, hf⟩
  · cases hf
theorem Fold_stampT {t B : Nat} {S : Nat → Bool} (recs : List Rec) (hB : ∀ r, r ∈ recs → r.hi ≤ B) : ∀ (a : Option (Value × Nat)), (∀ v n, a = some (v, n) → n ≤ B) → ∀ v n, Fold (upT t) S recs a = some (v, n) → n ≤ B := by
  induction recs with
  | nil => intro a ha v n h; exact ha v n h
  | cons r rs ih =>
    intro a ha
    simp only [Fold]
    refine ih (fun x hx => hB x (List.mem_cons_of_mem _ hx)) _ fun v n h => ?_
    split at h
    · unfold upT at h
      split at h
      · cases a with
        | none => cases h
        | some x => cases h; exact hB r (List.mem_cons_self ..)
      · exact ha v n h
    · exact ha v n h
theorem Fold_stampH {i B : Nat} {S : Nat → Bool} (recs : List Rec) (hB : ∀ r, r ∈ recs → r.hi ≤ B) : ∀ (a : Option ((Bool × Blk) × Nat)), (∀ v n, a = some (v, n) → n ≤ B) → ∀ v n, Fold (upH i) S recs a = some (v, n) → n ≤ B := by
  induction recs with
  | nil => intro a ha v n h; exact ha v n h
  | cons r rs ih =>
    intro a ha
    simp only [Fold]
    refine ih (fun x hx => hB x (List.mem_cons_of_mem _ hx)) _ fun v n h => ?_
    split at h
    · unfold upH at h
      split at h
      · obtain ⟨e, _, h2⟩ := Option.map_eq_some_iff.1 h
        cases h2
        exact hB r (List.mem_cons_self ..)
      · exact ha v n h
    · exact ha v n h
theorem CallPost.single {E : Env} {ρ : Inj} {st : St} {w w' : World} {r : Value × St} {e : Ending} (h : CallPost E (· = r) ρ st w e w') : ∃ v' ρ', e = .returned v' ∧ VRel ρ' r.1 v' ∧ HRel E ρ' (find r.2.heap) w' ∧ Ext ρ ρ' st r.2 w w' := by
  obtain ⟨v, st', v', ρ', hk, h1, h2, h3, h4⟩ := h
  subst hk
  exact ⟨v', ρ', h1, h2, h3, h4⟩

section
variable {E : Env} (hE : E.Ok) {cf : CallF} (hC : CallOk E cf) {ops : Array Oper} {tmps0 : List Value} {st0 : St} {ρ0 : Inj} {w0 : World} {recs : List Rec}
include hE hC

/-- An operation whose predecessors are done, in whatever order. -/
theorem exec_one (hG : GdFrom E cf ops tmps0 st0 [] recs) (N : Notes E (pmOf ops) recs st0) (hS0 : SRel E ρ0 st0 w0) {pre post : List Rec} {r : Rec} (hr : recs = pre ++ r :: post) {S : Nat → Bool} {ρ : Inj} {a : Act} {w : World}
    (D : DInv E recs tmps0 st0 ρ0 w0 S ρ a w) (hcl : ∀ q, q ∈ recs → S q.ix = true → ∀ b, (pmOf ops q.ix).testBit b = true → S b = true) (hj : S r.ix = false) (hpm : ∀ b, (pmOf ops r.ix).testBit b = true → S b = true)
    {Q : Exit → Act → World → Prop} {K : Act → World → Prop} (hK : ∀ ρ' a' w', DInv E recs tmps0 st0 ρ0 w0 (addS S r.ix) ρ' a' w' → K a' w') : wpOp E.P ops Q r.ix K a w := by
  have hF := hS0.fresh
  obtain ⟨hpre, hpost⟩ := N.split hr
  have hmem : r ∈ recs := by rw [hr]; simp
  obtain ⟨hlo1, hlo2, hlo3⟩ := N.lo r hmem
  have hGr := GdFrom.at (pre := []) (a := pre) (r := r) (b := post) (hr ▸ hG)
  rw [List.nil_append] at hGr
  obtain ⟨o, ho, hrec, hrok, hap0⟩ := hGr
  obtain ⟨q1, q2, q3, q4, hgd, q5⟩ := recOf_eq hrec
  have hng : E.ng ≤ st0.next := by
    rcases Nat.lt_or_ge st0.next E.ng with h | h
    · obtain ⟨m, hm, _⟩ := hS0.globs _ h
      rw [hF _ (Nat.le_refl _)] at hm
      cases hm
    · exact h
  have hprelo : ∀ p, p ∈ pre → p.hi ≤ r.lo := fun p hp => (hpre p hp).2.1
  have hS1 : ∀ p, p ∈ pre → S p.ix = true ∨ Ap r p := fun p hp => (hpre p hp).2.2.imp (hpm _) id
  have hS2 : ∀ q, q ∈ post → S q.ix = false ∨ Ap q r := fun q hq => by
    rcases (hpost q hq).2.2 with h | h
    · left
      cases hs : S q.ix with
      | false => rfl
      | true =>
        have := hcl q (by rw [hr]; simp [hq]) hs _ h
        rw [hj] at this; cases this
    · exact .inr h
  -- temporaries
  have hT : TRel r.names (ρ.upto r.lo) (tmpsAt pre tmps0) a := by
    intro t ht
    have h1 := tmpsAt_get t st0.next pre tmps0 ((get tmps0 t).map (·, st0.next)) (by cases get tmps0 t <;> rfl)
    have h2 : TS recs tmps0 st0 S t = Fold (upT t) allS pre ((get tmps0 t).map (·, st0.next)) := by
      unfold TS
      rw [hr, Fold_append]
      rw [Fold_skip (r :: post) (fun x hx => by
        rcases List.mem_cons.1 hx with rfl | hx
        · exact .inr hj
        · rcases hS2 x hx with h3 | h3
          · exact .inr h3
          · left; intro _; unfold upT; rw [if_neg]; exact fun hd => h3.d2 t hd ht)]
      exact Fold_congr pre (fun p hp => by
        rcases hS1 p hp with h3 | h3
        · exact .inr (by rw [h3]; rfl)
        · left; intro _; unfold upT; rw [if_neg]; exact fun hd => h3.d1 t hd ht) _
    rw [h1, ← h2]
    refine ⟨fun h3 => (D.tm t).1 (by simpa using h3), fun v h3 => ?_⟩
    obtain ⟨⟨v1, n⟩, h4, h5⟩ := Option.map_eq_some_iff.1 h3
    simp only at h5
    subst h5
    obtain ⟨v', h6, h7⟩ := (D.tm t).2 v1 n h4
    refine ⟨v', h6, h7.mono (Inj.upto_mono (Inj.le.refl _) ?_)⟩
    rw [h2] at h4
    exact Fold_stampT pre hprelo _ (fun v n h => by
      obtain ⟨_, _, h2⟩ := Option.map_eq_some_iff.1 h
      cases h2; exact hlo1) v1 n h4
  -- blocks
  have hst := fun i => stAt_find i pre st0 ((find st0.heap i).map (·, st0.next)) (fun k e h => find_ne_fresh hS0 h) (by
    have := N.pw
    rw [hr, List.pairwise_append] at this
    exact this.1.imp fun h => h.2.1) (fun p hp => N.lo p (by rw [hr]; simp [hp])) (fun e h => ⟨st0.next, by rw [h]; rfl⟩)
  have hB : ∀ i e, (i < E.ng ∨ i ∈ r.touch) → find (stAt pre st0).heap i = some e → ∃ n, HS recs st0 S i = some (e, n) ∧ n ≤ r.lo := by
    intro i e hi he
    obtain ⟨n, hn⟩ := (hst i).1 e he
    have hlt := (hst i).2 i e he
    rw [← q4] at hlt
    have h2 : HS recs st0 S i = Fold (upH i) allS pre ((find st0.heap i).map (·, st0.next)) := by
      unfold HS
      rw [hr, Fold_append]
      rw [Fold_skip (r :: post) (fun x hx => by
        rcases List.mem_cons.1 hx with rfl | hx
        · exact .inr hj
        · rcases hS2 x hx with h3 | h3
          · exact .inr h3
          · left
            intro _
            unfold upH
            rw [if_neg]
            have hxm : x ∈ recs := by rw [hr]; simp [hx]
            have hx2 := (hpost x hx).2.1
            rintro (hw | hw)
            · omega
            · rcases hi with hi | hi
              · have := (N.wr x hxm i hw).2; omega
              · exact h3.wt i hw hi)]
      exact Fold_congr pre (fun p hp => by
        rcases hS1 p hp with h3 | h3
        · exact .inr (by rw [h3]; rfl)
        · left
          intro _
          unfold upH
          rw [if_neg]
          have hpm : p ∈ recs := by rw [hr]; simp [hp]
          rintro (hw | hw)
          · rcases hi with hi | hi
            · have := (N.lo p hpm).1; omega
            · exact h3.nw i hi hw
          · rcases hi with hi | hi
            · have := (N.wr p hpm i hw).2; omega
            · exact h3.rd i hi hw) _
    refine ⟨n, by rw [h2]; exact hn, ?_⟩
    exact Fold_stampH pre hprelo _ (fun v n h => by
      obtain ⟨_, _, h2⟩ := Option.map_eq_some_iff.1 h
      cases h2; exact hlo1) e n hn
  have hglob : Globs E (ρ.upto r.lo) := fun g hg => by
    obtain ⟨m, h1, h2⟩ := hS0.globs g hg
    exact ⟨m, Inj.upto_of (D.le g m h1) (by omega), h2⟩
  have hSR : ∀ f, f = r.touch → SRel E (ρ.upto r.lo) ⟨only E.ng f (stAt pre st0).heap, r.lo, []⟩ w := fun f hf => by
    subst hf
    refine ⟨⟨fun i o b h => ?_, fun i k b e mi mk hi hk hik h1 h2 => ?_⟩, Inj.upto_fresh _ _, hglob, hS0.orc.mono fun i m hi => Inj.upto_of (D.le i m hi) (by
      rcases Nat.lt_or_ge i st0.next with h | h
      · omega
      · rw [hF i h] at hi; cases hi)⟩
    · obtain ⟨g1, g2⟩ := find_only h
      obtain ⟨n, g3, g4⟩ := hB i _ g1 g2
      exact (D.hp i o b n g3).keep (Inj.upto_mono (Inj.le.refl _) g4) fun _ _ => rfl
    · obtain ⟨g1, g2⟩ := find_only hi
      obtain ⟨g3, g4⟩ := find_only hk
      obtain ⟨n, g5, _⟩ := hB i _ g1 g2
      obtain ⟨n', g6, _⟩ := hB k _ g3 g4
      exact D.inj i k b e mi mk n n' g5 g6 hik (Inj.upto_eq h1).1 (Inj.upto_eq h2).1
  have hsub : ∀ f, f = r.touch → ∀ c e, find (only E.ng f (stAt pre st0).heap) c = some e → ∃ n, HS recs st0 S c = some (e, n) := fun f hf c e h => by
    subst hf
    obtain ⟨g1, g2⟩ := find_only h
    obtain ⟨n, g3, _⟩ := hB c e g1 g2
    exact ⟨n, g3⟩
  unfold wpOp
  rw [q1, ho]
  simp only
  rw [q3] at hT
  rw [← wanted_eq' hT hgd]
  rcases q5 with ⟨hw, g, ha, e1, e2, e3⟩ | ⟨hw, e1, e2, e3, e4, e5⟩
  · rw [if_pos hw]
    left
    unfold Oper.wp
    unfold alone at ha
    split at ha
    · rename_i f args at_ cn hop
      split at ha
      · rename_i gf xs ht
        simp only at ha
        split at ha
        · rename_i v g' hcf
          simp only [Option.some.injEq, Prod.mk.injEq] at ha
          obtain ⟨ha1, ha2, ha3⟩ := ha
          subst ha2 ha3
          rw [ha1, ← q4] at hcf
          have hSR' := hSR r.touch rfl
          have hstep : step0 E (tmpsAt pre tmps0) o ⟨only E.ng r.touch (stAt pre st0).heap, r.lo, []⟩ = some (.call gf xs) := by
            unfold step0
            rw [hop]
            simp only [stepCall, ht]
          obtain ⟨args', fn, c, hr1, hargs, hf, hc⟩ := step0_sound hE hSR' (fun x hx => ev_rel' hT hglob x hx) hstep
          rw [hr1, Oper.upon_enter]
          refine Calls.mono (hC gf xs ⟨only E.ng r.touch (stAt pre st0).heap, r.lo, []⟩ (· = (r.v, g')) (ρ.upto r.lo) w args' fn c (by rw [hcf]; rfl) hSR' hargs hf hc) fun e w' hp => ?_
          obtain ⟨v', ρ1, rfl, hv, hh, hx⟩ := hp.single
          simp only at hv hh hx
          obtain ⟨ρ', D'⟩ := D.step N hF hr hcl hj (hsub r.touch rfl) hv (by rw [e3]; exact hh) (lg := g'.log) (by
            rw [show (⟨r.heap, r.hi, g'.log⟩ : St) = g' by cases g'; simp only at e2 e3; rw [e2, e3]]
            exact hx) (by rw [e1, q4])
          rw [← q2]
          exact hK ρ' _ _ (by rw [q1] at D'; rw [q1]; exact D')
        · cases ha
      · cases ha
    · split at ha
      · rename_i v g' hst2
        simp only [Option.some.injEq, Prod.mk.injEq] at ha
        obtain ⟨ha1, ha2, ha3⟩ := ha
        subst ha2 ha3
        rw [ha1, ← q4] at hst2
        have hSR' := hSR r.touch rfl
        obtain ⟨nx, v', w', ρ1, hr1, hnx, hv, hh, hx⟩ := step_sound hE hSR' (fun x hx => ev_rel' hT hglob x hx) hst2
        rw [hr1]
        obtain ⟨ρ', D'⟩ := D.step N hF hr hcl hj (hsub r.touch rfl) hv (by rw [e3]; exact hh) (lg := g'.log) (by
          rw [show (⟨r.heap, r.hi, g'.log⟩ : St) = g' by cases g'; simp only at e2 e3; rw [e2, e3]]
          exact hx) (by rw [e1, q4])
        have hfin := hK ρ' _ _ (by rw [q1] at D'; rw [q1]; exact D')
        rw [q2] at hfin
        rcases hnx with rfl | ⟨rfl, rfl⟩
        · exact hfin
        · exact hfin
      · cases ha
  · rw [if_neg (by rw [hw]; simp)]
    obtain ⟨ρ', D'⟩ := D.step N hF hr hcl hj (v' := undef) (w' := w) (ρ1 := ρ.upto r.lo) (hh := []) (lg := []) (by intro c e h; cases h) (by rw [e4]; exact .flat rfl)
      (by rw [e5]; exact ⟨(by intro i o b h; cases h), (by intro i k b e mi mk h; cases h)⟩)
      (by rw [e5, e3, ← q4]; exact Ext.refl _ _ _) (by rw [e2]; rfl)
    rw [← q2]
    exact hK ρ' _ _ (by rw [q1] at D'; rw [q1]; exact D')
end
end Go.Am
