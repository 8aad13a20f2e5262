/- Code: what the machine makes of it, the model's run does. -/
import Derived.Test.YtbhiilfifandhaaAm15
import Derived.LoopN
import Derived.Scope
import Derived.Orders
set_option linter.unusedVariables false
set_option linter.unusedSimpArgs false
set_option linter.unusedSectionVars false
namespace Go.Am

theorem SRel.after {E : Env} {ρ ρ' : Inj} {st st' : St} {w w' : World} (h : SRel E ρ st w) (hh : HRel E ρ' (find st'.heap) w') (e : Ext ρ ρ' st st' w w') : SRel E ρ' st' w' := ⟨hh, h.fresh.ext e, h.globs.mono e.le, h.orc.mono e.le⟩

def ExR : Out → Exit → Prop
  | .normal, .normal => True
  | .exit i, .exit j => i = j
  | .goto l, .goto m => l = m
  | .ret, .ret => True
  | _, _ => False
/-- What holds where a stretch of code ends. -/
def Post (E : Env) (K : Res → Prop) (ρ : Inj) (st : St) (w : World) : Exit → Act → World → Prop := fun e a' w' =>
  ∃ r ρ', K r ∧ ExR r.1 e ∧ LRel ρ' r.2.1 a'.tmps.toList ∧ a'.defers = [] ∧ HRel E ρ' (find r.2.2.heap) w' ∧ Ext ρ ρ' st r.2.2 w w'
theorem Post.trans {E : Env} {K : Res → Prop} {ρ ρ1 : Inj} {st st1 : St} {w w1 : World} (h : Ext ρ ρ1 st st1 w w1) {e : Exit} {a : Act} {w' : World} (p : Post E K ρ1 st1 w1 e a w') : Post E K ρ st w e a w' := by
  obtain ⟨r, ρ', h1, h2, h3, h4, h5, h6⟩ := p
  exact ⟨r, ρ', h1, h2, h3, h4, h5, h.trans h6⟩
def RunOk (E : Env) (run : Run) (c : Code) : Prop :=
  ∀ tmps st K ρ a w, (run tmps st).All K → SRel E ρ st w → LRel ρ tmps a.tmps.toList → a.defers = [] → c.wp E.P (Post E K ρ st w) a w
/-- What holds where a call ends. -/
def CallPost (E : Env) (K : Value × St → Prop) (ρ : Inj) (st : St) (w : World) : Ending → World → Prop := fun e w' =>
  ∃ v st' v' ρ', K (v, st') ∧ e = .returned v' ∧ VRel ρ' v v' ∧ HRel E ρ' (find st'.heap) w' ∧ Ext ρ ρ' st st' w w'
def CallOk (E : Env) (cf : CallF) : Prop :=
  ∀ f args st K ρ w args' fn c, (cf f args st).All K → SRel E ρ st w → LRel ρ args args' → get E.funcs f = some fn → fn.body = some c → Calls E.P f ⟨args'⟩ w (CallPost E K ρ st w)

theorem put_rel {ρ : Inj} {tmps : List Value} {a : Act} {v v' : Value} (h : LRel ρ tmps a.tmps.toList) (hv : VRel ρ v v') (d : Option Tmp) : LRel ρ (put tmps d v) (a.put d v').tmps.toList := by
  cases d with
  | none => exact h
  | some d =>
    simp only [put, Act.put, Array.toList_setIfInBounds]
    exact h.set d hv
theorem put_defers {a : Act} {v : Value} (d : Option Tmp) : (a.put d v).defers = a.defers := by cases d <;> rfl
theorem wanted_eq {ρ : Inj} {ops : Array Oper} {tmps : List Value} {a : Act} (h : LRel ρ tmps a.tmps.toList) (o : Oper) (hg : guardOk ops tmps o = true) : wanted ops tmps o = Region.wanted o (yielded ops a.tmps) := by
  unfold wanted Region.wanted
  unfold guardOk at hg
  cases hgd : o.guard with
  | none => rfl
  | some g =>
    obtain ⟨j, want⟩ := g
    rw [hgd] at hg
    simp only at hg
    simp only [yielded]
    rw [get_eq, Array.getElem?_toList] at hg ⊢
    cases hj : (ops[j]?).bind (·.dst) with
    | none => simp
    | some d =>
      rw [hj] at hg
      simp only at hg
      simp only [Option.bind_some]
      rw [get_eq] at hg ⊢
      cases hd : tmps[d]? with
      | none =>
        have : a.tmps[d]? = none := by
          rw [← Array.getElem?_toList]
          rw [List.getElem?_eq_none_iff] at hd ⊢
          rw [← h.1]; exact hd
        rw [this]
        rfl
      | some v =>
        obtain ⟨v', h1, h2⟩ := h.get hd
        rw [Array.getElem?_toList] at h1
        rw [h1]
        rw [hd] at hg
        cases h2 with
        | @flat v hf => cases v <;> simp
        | tok h ho => simp at hg
        | _ => simp
theorem ev_rel {E : Env} {ρ : Inj} {tmps : List Value} {a : Act} (h : LRel ρ tmps a.tmps.toList) (hg : Globs E ρ) (x : Operand) : EvR E ρ tmps a x := by
  intro v hv
  cases x with
  | tmp t =>
    simp only [eval] at hv
    rw [get_eq] at hv
    obtain ⟨v', h1, h2⟩ := h.get hv
    rw [Array.getElem?_toList] at h1
    simp only [Act.eval, Array.getD_eq_getD_getElem?, h1, Option.getD_some]
    exact h2
  | const c =>
    simp only [eval] at hv
    split at hv
    · rename_i hf; cases hv; exact .flat hf
    · cases hv
  | global g =>
    simp only [eval] at hv
    split at hv
    · rename_i hlt
      cases hv
      obtain ⟨m, h1, h2, h3⟩ := hg g ((blt_iff _ _).1 hlt)
      have := VRel.ptr (off := 0) h1
      rw [h2, h3] at this
      exact this
    · cases hv
  | func f =>
    simp only [eval, Option.some.injEq] at hv
    subst hv
    exact .func rfl (by simp) rfl (by simp)

section
variable {E : Env} (hE : E.Ok) {cf : CallF} (hC : CallOk E cf)
include hE hC

theorem region_list {ops : Array Oper} {K : Res → Prop} {ρ0 : Inj} {st0 : St} {w0 : World} (l : List Oper) : ∀ {tmps : List Value} {st : St} {ρ : Inj} {a : Act} {w : World}, (region E cf ops l tmps st).All K → SRel E ρ st w → LRel ρ tmps a.tmps.toList → a.defers = [] →
    Ext ρ0 ρ st0 st w0 w → wpList E.P ops (Post E K ρ0 st0 w0) l a w := by
  induction l with
  | nil =>
    intro tmps st ρ a w h hS hT hD hX
    exact ⟨_, ρ, h, trivial, hT, hD, hS.heap, hX⟩
  | cons o rest ih =>
    intro tmps st ρ a w h hS hT hD hX
    unfold region at h
    unfold wpList
    split at h
    case isFalse => exact h.elim
    rename_i hgd
    rw [← wanted_eq hT o hgd]
    split
    · rename_i hw
      rw [if_pos hw] at h
      rw [T.All_bind] at h
      obtain ⟨r, hK, hN⟩ := stepT_sound hE hS (fun x _ => ev_rel hT hS.globs x) h
      left
      unfold Oper.wp
      cases r with
      | val v st' =>
        obtain ⟨nx, v', w', ρ', hr, hnx, hv, hh, he⟩ := hN
        rw [hr]
        have go := ih (a := a.put o.dst v') hK (hS.after hh he) (put_rel (hT.mono he.le) hv o.dst) (by rw [put_defers]; exact hD) (hX.trans he)
        rcases hnx with rfl | ⟨rfl, rfl⟩
        · exact go
        · exact go
      | call f args =>
        obtain ⟨args', fn, c, hr, hargs, hf, hc⟩ := hN
        rw [hr, Oper.upon_enter]
        simp only at hK
        rw [T.All_bind] at hK
        refine Calls.mono (hC f args st _ ρ w args' fn c hK hS hargs hf hc) fun e w' hp => ?_
        obtain ⟨v, st', v', ρ', hk, rfl, hv, hh, he⟩ := hp
        exact ih (a := a.put o.dst v') hk (hS.after hh he) (put_rel (hT.mono he.le) hv o.dst) (by rw [put_defers]; exact hD) (hX.trans he)
    · rename_i hw
      rw [if_neg hw] at h
      exact ih (a := a.put o.dst undef) h hS (put_rel hT (.flat rfl) o.dst) (by rw [put_defers]; exact hD) hX
theorem andThen_ok {f g : Run} {c d : Code} (hf : RunOk E f c) (hg : RunOk E g d) : RunOk E (andThen f g) (.seq c d) := by
  intro tmps st K ρ a w h hS hT hD
  unfold andThen at h
  rw [T.All_bind] at h
  refine wp_seq (wp_mono (hf tmps st _ ρ a w h hS hT hD) fun e a' w' hp => ?_)
  obtain ⟨⟨o, tm, s⟩, ρ', hk, hx, ht, hd, hh, he⟩ := hp
  cases o <;> cases e <;> first
    | exact hx.elim
    | skip
  · exact wp_mono (hg tm s K ρ' a' w' hk (hS.after hh he) ht hd) fun e a w p => p.trans he
  · exact ⟨_, ρ', hk, hx, ht, hd, hh, he⟩
  · exact ⟨_, ρ', hk, hx, ht, hd, hh, he⟩
  · exact ⟨_, ρ', hk, hx, ht, hd, hh, he⟩
theorem rounds_ok {f : Run} {c : Code} (hf : RunOk E f c) {K : Res → Prop} {ρ0 : Inj} {st0 : St} {w0 : World} (n : Nat) : ∀ {tmps : List Value} {st : St} {ρ : Inj} {a : Act} {w : World}, (rounds f n tmps st).All K → SRel E ρ st w → LRel ρ tmps a.tmps.toList → a.defers = [] →
    Ext ρ0 ρ st0 st w0 w → Code.rounds E.P c (Post E K ρ0 st0 w0) n a w := by
  induction n with
  | zero => intro tmps st ρ a w h; exact h.elim
  | succ n ih =>
    intro tmps st ρ a w h hS hT hD hX
    unfold rounds at h
    rw [T.All_bind] at h
    refine wp_mono (hf tmps st _ ρ a w h hS hT hD) fun e a' w' hp => ?_
    obtain ⟨⟨o, tm, s⟩, ρ', hk, hx, ht, hd, hh, he⟩ := hp
    cases o <;> cases e <;> first
      | exact hx.elim
      | skip
    · exact ih hk (hS.after hh he) ht hd (hX.trans he)
    · exact ⟨_, ρ', hk, hx, ht, hd, hh, hX.trans he⟩
    · exact ⟨_, ρ', hk, hx, ht, hd, hh, hX.trans he⟩
    · exact ⟨_, ρ', hk, hx, ht, hd, hh, hX.trans he⟩
def JumpOk (E : Env) (jump : Nat → Option Run) (c : Code) : Prop :=
  ∀ l, match jump l with
    | some f => ∃ rest, findLabel c l = some rest ∧ RunOk E f rest
    | none => findLabel c l = none
theorem jumps_ok {jump : Nat → Option Run} {c : Code} (hj : JumpOk E jump c) {K : Res → Prop} {ρ0 : Inj} {st0 : St} {w0 : World} {m : Machine} {b : Frame} {k : List Item} {cs : List Frame} (n : Nat) :
    ∀ {r : Res} {ρ : Inj} {e : Exit} {a : Act} {w : World}, (jumps jump n r).All K → ExR r.1 e → SRel E ρ r.2.2 w → LRel ρ r.2.1 a.tmps.toList → a.defers = [] → Ext ρ0 ρ st0 r.2.2 w0 w →
      Arrives E.P m b (.inScope c :: k) cs e a w → ∃ e' a' w', Post E K ρ0 st0 w0 e' a' w' ∧ Arrives E.P m b k cs e' a' w' := by
  induction n with
  | zero => intro r ρ e a w h; exact h.elim
  | succ n ih =>
    intro r ρ e a w h hx hS hT hD hX harr
    obtain ⟨o, tm, s⟩ := r
    simp only at hx hS hT hX
    cases o <;> cases e <;> first
      | exact hx.elim
      | skip
    · exact ⟨.normal, a, w, ⟨_, ρ, h, trivial, hT, hD, hS.heap, hX⟩, Steps.trans harr (.one step_inScope)⟩
    · rename_i i j
      exact ⟨.exit j, a, w, ⟨_, ρ, h, hx, hT, hD, hS.heap, hX⟩, fun k' hk => harr k' (by simp [exitTo, hk])⟩
    · rename_i l l'
      have hl : l = l' := hx
      subst hl
      have hjl := hj l
      unfold jumps at h
      simp only at h
      cases hjump : jump l with
      | some f =>
        rw [hjump] at h hjl
        simp only at h hjl
        obtain ⟨rest, h1, h2⟩ := hjl
        rw [T.All_bind] at h
        obtain ⟨e2, a2, w2, hq2, harr2⟩ := h2 tm s _ ρ a w h hS hT hD b (.inScope c :: k) cs
        obtain ⟨r2, ρ2, g1, g2, g3, g4, g5, g6⟩ := hq2
        refine ih g1 g2 (hS.after g5 g6) g3 g4 (hX.trans g6) ?_
        exact .of_steps (harr (.code rest :: .inScope c :: k) (by simp [gotoIn, h1])) harr2
      | none =>
        rw [hjump] at h hjl
        simp only at h hjl
        exact ⟨.goto l, a, w, ⟨_, ρ, h, rfl, hT, hD, hS.heap, hX⟩, fun k' hk => harr k' (by simp [gotoIn, hjl, hk])⟩
    · exact ⟨.ret, a, w, ⟨_, ρ, h, trivial, hT, hD, hS.heap, hX⟩, harr⟩

theorem den_sound (hdraw : ∀ id ops, RunOk E (fun tmps st => drawn E cf ops ops.toList (before ops.toList []) 0 [] tmps st) (.region id ops true)) (N : Nat) (c : Code) : RunOk E (den E cf N c).run c ∧ JumpOk E (den E cf N c).jump c := by
  induction c with
  | skip => exact ⟨fun tmps st K ρ a w h hS hT hD => wp_skip ⟨_, ρ, h, trivial, hT, hD, hS.heap, Ext.refl ρ st w⟩, fun l => rfl⟩
  | label l =>
    refine ⟨fun tmps st K ρ a w h hS hT hD => wp_label ⟨_, ρ, h, trivial, hT, hD, hS.heap, Ext.refl ρ st w⟩, fun l' => ?_⟩
    simp only [den]
    by_cases hl : l = l'
    · have : Nat.beq l l' = true := by simpa using hl
      rw [if_pos this]
      refine ⟨.skip, by simp [findLabel, hl], fun tmps st K ρ a w h hS hT hD => wp_skip ⟨_, ρ, h, trivial, hT, hD, hS.heap, Ext.refl ρ st w⟩⟩
    · have : ¬ (Nat.beq l l' = true) := by simpa using hl
      rw [if_neg this]
      simp [findLabel, hl]
  | ret => exact ⟨fun tmps st K ρ a w h hS hT hD => wp_ret ⟨_, ρ, h, trivial, hT, hD, hS.heap, Ext.refl ρ st w⟩, fun l => rfl⟩
  | exit id => exact ⟨fun tmps st K ρ a w h hS hT hD => wp_exit ⟨_, ρ, h, rfl, hT, hD, hS.heap, Ext.refl ρ st w⟩, fun l => rfl⟩
  | goto l => exact ⟨fun tmps st K ρ a w h hS hT hD => wp_goto ⟨_, ρ, h, rfl, hT, hD, hS.heap, Ext.refl ρ st w⟩, fun l => rfl⟩
  | seq x y ihx ihy =>
    refine ⟨andThen_ok hE hC ihx.1 ihy.1, fun l => ?_⟩
    simp only [den]
    have hl := ihx.2 l
    cases hj : (den E cf N x).jump l with
    | some f =>
      rw [hj] at hl
      obtain ⟨rest, h1, h2⟩ := hl
      exact ⟨.seq rest y, by simp [findLabel, h1], andThen_ok hE hC h2 ihy.1⟩
    | none =>
      rw [hj] at hl
      simp only at hl ⊢
      have hy := ihy.2 l
      cases hj2 : (den E cf N y).jump l with
      | some f =>
        rw [hj2] at hy
        obtain ⟨rest, h1, h2⟩ := hy
        exact ⟨rest, by simp [findLabel, hl, h1], h2⟩
      | none =>
        rw [hj2] at hy
        simp only at hy ⊢
        simp [findLabel, hl, hy]
  | cond x y z ihy ihz =>
    refine ⟨fun tmps st K ρ a w h hS hT hD => ?_, fun l => rfl⟩
    simp only [den] at h
    split at h
    · rename_i hx
      exact wp_cond_true ((ev_rel hT hS.globs x _ hx).same rfl) (ihy.1 tmps st K ρ a w h hS hT hD)
    · rename_i hx
      exact wp_cond_false ((ev_rel hT hS.globs x _ hx).same rfl) (ihz.1 tmps st K ρ a w h hS hT hD)
    · exact h.elim
  | block id b ih =>
    refine ⟨fun tmps st K ρ a w h hS hT hD => ?_, fun l => rfl⟩
    simp only [den] at h
    rw [T.All_bind] at h
    refine wp_block (wp_mono (ih.1 tmps st _ ρ a w h hS hT hD) fun e a' w' hp => ?_)
    obtain ⟨⟨o, tm, s⟩, ρ', hk, hx, ht, hd, hh, he⟩ := hp
    cases o <;> cases e <;> first
      | exact hx.elim
      | skip
    · exact ⟨_, ρ', hk, hx, ht, hd, hh, he⟩
    · rename_i i j
      have hij : i = j := hx
      subst hij
      simp only [leaveBlock] at hk
      show (if i = id then Post E K ρ st w .normal a' w' else Post E K ρ st w (.exit i) a' w')
      by_cases hid : i = id
      · have : Nat.beq i id = true := by simpa using hid
        rw [if_pos this] at hk
        rw [if_pos hid]
        exact ⟨_, ρ', hk, trivial, ht, hd, hh, he⟩
      · have : ¬ (Nat.beq i id = true) := by simpa using hid
        rw [if_neg this] at hk
        rw [if_neg hid]
        exact ⟨_, ρ', hk, rfl, ht, hd, hh, he⟩
    · exact ⟨_, ρ', hk, hx, ht, hd, hh, he⟩
    · exact ⟨_, ρ', hk, hx, ht, hd, hh, he⟩
  | loop b ih =>
    exact ⟨fun tmps st K ρ a w h hS hT hD => wp_loop_rounds N (rounds_ok hE hC ih.1 N h hS hT hD (Ext.refl ρ st w)), fun l => rfl⟩
  | scope b ih =>
    refine ⟨fun tmps st K ρ a w h hS hT hD => ?_, fun l => rfl⟩
    simp only [den] at h
    rw [T.All_bind] at h
    intro fb k cs
    obtain ⟨e, a1, w1, hq, harr⟩ := ih.1 tmps st _ ρ a w h hS hT hD fb (.inScope b :: k) cs
    obtain ⟨r, ρ', hk, hx, ht, hd, hh, he⟩ := hq
    exact jumps_ok hE hC ih.2 N hk hx (hS.after hh he) ht hd he (.of_steps (.one step_scope) harr)
  | region id ops draw =>
    refine ⟨?_, fun l => rfl⟩
    cases draw with
    | true => exact hdraw id ops
    | false => exact fun tmps st K ρ a w h hS hT hD => wp_region_list (region_list hE hC ops.toList h hS hT hD (Ext.refl ρ st w))
  | rangeFunc => exact ⟨fun tmps st K ρ a w h => h.elim, fun l => rfl⟩
  | refuse => exact ⟨fun tmps st K ρ a w h => h.elim, fun l => rfl⟩
end
end Go.Am
