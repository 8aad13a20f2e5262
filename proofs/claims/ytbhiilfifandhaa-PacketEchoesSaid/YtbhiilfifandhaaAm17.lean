/- Calls: what the machine makes of them, the model's run does. -/
import Derived.Test.YtbhiilfifandhaaAm16
set_option linter.unusedVariables false
set_option linter.unusedSimpArgs false
set_option linter.unusedSectionVars false
namespace Go.Am

theorem pad_eq (l : List Value) (n : Nat) : pad l n = l ++ List.replicate (n - l.length) (.tuple #[]) := by
  induction n generalizing l with
  | zero => simp [pad]
  | succ n ih =>
    cases l with
    | nil => simp only [pad, ih]; simp [List.replicate_succ]
    | cons v r => simp only [pad, ih]; simp
theorem find_reach {h : Heap} {n : Nat} {keep : List Nat} {i : Nat} {e : Bool × Blk} (hf : find (sweep n keep h) i = some e) : find h i = some e := by
  unfold sweep at hf
  rw [find_filt] at hf
  split at hf
  · exact hf
  · cases hf
/-- A call's own stretch, seen from the caller. -/
theorem Ext.leave {ρ ρ' : Inj} {h h' h'' : Heap} {n n' : Nat} {l l' : List Nat} {w w' : World} (hF : Fresh ρ n) (e : Ext ρ ρ' ⟨h, n, []⟩ ⟨h', n', l'⟩ w w') (hs : ∀ i e, find h'' i = some e → find h' i = some e) :
    Ext ρ ρ' ⟨h, n, l⟩ ⟨h'', n', joinLog (olds n l') l⟩ w w' := by
  have lt : ∀ j mj, ρ j = some mj → j < n := fun j mj hj => by
    rcases Nat.lt_or_ge j n with h | h
    · exact h
    · rw [hF j h] at hj; cases hj
  exact {
    le := e.le
    next := e.next
    new := e.new
    acq := fun i m h1 h2 => by
      rcases e.acq i m h1 h2 with h3 | ⟨j, mj, h3, h4, h5⟩
      · exact .inl h3
      · exact .inr ⟨j, mj, (mem_joinLog _ _ _).2 (.inl ((mem_olds _ _ _).2 ⟨h3, lt j mj h4⟩)), h4, h5⟩
    log := fun i h1 _ => (mem_joinLog _ _ _).2 (.inr h1)
    frame := fun r hr hn => e.frame r hr fun j mj h3 h4 => hn j mj ((mem_joinLog _ _ _).2 (.inl ((mem_olds _ _ _).2 ⟨h3, lt j mj h4⟩))) h4
    size := e.size
    own := fun i h1 h2 h3 => by
      rcases (mem_joinLog _ _ _).1 h1 with h4 | h4
      · exact e.own i ((mem_olds _ _ _).1 h4).1 (by simp) h3
      · exact absurd h4 h2
    own' := fun i b h1 h2 => e.own' i b h1 (hs _ _ h2)
    os := e.os
    tape := e.tape
    output := e.output }

/-- One result of a function. -/
def resF (tmps : Array Value) : ResultVar → Sem Value
  | .tmp t => pure (tmps.getD t undef)
  | .cell c t => do Go.loadVar t (← asAddr (tmps.getD c undef))
theorem results_eq (fn : Func) (tmps : Array Value) : Go.results fn tmps = (do let vs ← fn.results.mapM (resF tmps); pure (if h : vs.size = 1 then vs[0] else .tuple vs)) := rfl

section
variable {E : Env} (hE : E.Ok)
include hE

theorem results_run {ρ : Inj} {h : Heap} {n : Nat} {w : World} (hS : SRel E ρ ⟨h, n, []⟩ w) {tmps : List Value} {a : Act} (hT : LRel ρ tmps a.tmps.toList) (rs : List ResultVar) : ∀ {vs : List Value} (acc : Array Value), results E h tmps rs = some vs →
    ∃ vs', LRel ρ vs vs' ∧ (rs.foldlM (fun (bs : Array Value) (r : ResultVar) => do pure (bs.push (← resF a.tmps r))) acc).run E.P w = .ok (acc ++ vs'.toArray) w := by
  induction rs with
  | nil =>
    intro vs acc hv
    simp only [results, Option.some.injEq] at hv
    subst hv
    exact ⟨[], LRel.nil ρ, by simp⟩
  | cons r rest ih =>
    intro vs acc hv
    have tmpAt : ∀ t v, get tmps t = some v → ∃ v', a.tmps.getD t undef = v' ∧ VRel ρ v v' := fun t v ht => by
      rw [get_eq] at ht
      obtain ⟨v', h1, h2⟩ := hT.get ht
      rw [Array.getElem?_toList] at h1
      exact ⟨v', by simp [Array.getD_eq_getD_getElem?, h1], h2⟩
    have one : ∀ v v' vs0, VRel ρ v v' → (resF a.tmps r).run E.P w = .ok v' w → results E h tmps rest = some vs0 → ∃ vs', LRel ρ (v :: vs0) vs' ∧
        ((r :: rest).foldlM (fun (bs : Array Value) (r : ResultVar) => do pure (bs.push (← resF a.tmps r))) acc).run E.P w = .ok (acc ++ vs'.toArray) w := by
      intro v v' vs0 hv hr h2
      obtain ⟨vs', h5, h6⟩ := ih (acc.push v') h2
      refine ⟨v' :: vs', h5.cons hv, ?_⟩
      simp only [List.foldlM_cons, Sem.run_bind, Sem.run_pure, Result.andThen_ok, hr]
      rw [h6]
      simp
    cases r with
    | tmp t =>
      simp only [results] at hv
      split at hv
      · rename_i v vs0 h1 h2
        cases hv
        obtain ⟨v', h3, h4⟩ := tmpAt t v h1
        exact one v v' vs0 h4 (by rw [← h3]; rfl) h2
      · cases hv
    | cell c t =>
      simp only [results] at hv
      split at hv
      · rename_i b h1
        split at hv
        · rename_i v vs0 h2 h3
          cases hv
          obtain ⟨v', h4, h5⟩ := tmpAt c _ h1
          obtain ⟨_, m, hm, he⟩ := ptr_inv hE hS h5
          obtain ⟨u, hu, hur⟩ := load_var hE hS h2 (rb := m.blk) (ro := m.off + b.off) (fun m' hm' => by rw [hm] at hm'; cases hm'; exact ⟨rfl, rfl⟩)
          exact one v u vs0 hur (by simp only [resF, Sem.run_bind, h4, he, asAddr, Sem.run_pure, Result.andThen_ok, hu]) h3
        · cases hv
      · cases hv
theorem results_sound {ρ : Inj} {h : Heap} {n : Nat} {w : World} (hS : SRel E ρ ⟨h, n, []⟩ w) {tmps : List Value} {a : Act} (hT : LRel ρ tmps a.tmps.toList) {fn : Func} {vs : List Value} (hv : results E h tmps fn.results.toList = some vs) :
    ∃ v', (Go.results fn a.tmps).run E.P w = .ok v' w ∧ VRel ρ (asOne vs) v' := by
  obtain ⟨vs', h1, h2⟩ := results_run hE hS hT fn.results.toList #[] hv
  refine ⟨if h : vs'.toArray.size = 1 then vs'.toArray[0] else .tuple vs'.toArray, ?_, ?_⟩
  · rw [results_eq]
    simp only [Sem.run_bind, mapM_places]
    rw [h2]
    simp
  · cases vs with
    | nil =>
      rw [h1.nil_inv]
      exact .flat rfl
    | cons v r =>
      cases r with
      | nil =>
        obtain ⟨v', rfl, hv'⟩ := h1.one
        exact hv'
      | cons u r =>
        obtain ⟨v', r', rfl, h3, h4⟩ := h1.cons_inv
        obtain ⟨u', r'', rfl, h5, h6⟩ := h4.cons_inv
        exact VRel.mk_tuple h1

def PrimOk (E : Env) : Prop :=
  ∀ f args st r, E.prim f args st = some r → ∀ ρ w args' fn c, SRel E ρ st w → LRel ρ args args' → get E.funcs f = some fn → fn.body = some c → Calls E.P f ⟨args'⟩ w (CallPost E (· = r) ρ st w)
def DrawOk (E : Env) : Prop :=
  ∀ cf, CallOk E cf → ∀ id ops, RunOk E (fun tmps st => drawn E cf ops ops.toList (before ops.toList []) 0 [] tmps st) (.region id ops true)

theorem call_ok (hP : PrimOk E) (hD : DrawOk E) (N n : Nat) : CallOk E (call E N n) := by
  induction n with
  | zero => intro f args st K ρ w args' fn c h; exact h.elim
  | succ n ih =>
    intro f args st K ρ w args' fn c h hS hA hf hc
    unfold call at h
    split at h
    · rename_i r hr
      refine Calls.mono (hP f args st r hr ρ w args' fn c hS hA hf hc) fun e w' hp => ?_
      obtain ⟨v, st', v', ρ', rfl, h1⟩ := hp
      exact ⟨v, st', v', ρ', h, h1⟩
    · rw [hf] at h
      simp only [hc] at h
      rw [T.All_bind] at h
      have hS0 : SRel E ρ ⟨st.heap, st.next, []⟩ w := ⟨hS.heap, hS.fresh, hS.globs, hS.orc⟩
      have hrun := (den_sound hE ih (hD _ ih) N c).1 (pad args fn.ntmps) ⟨st.heap, st.next, []⟩ _ ρ { tmps := (⟨args'⟩ : Array Value) ++ Array.replicate (fn.ntmps - (⟨args'⟩ : Array Value).size) undef, defers := [] } w h hS0 (by
        rw [pad_eq]
        simp only [Array.toList_append, Array.toList_replicate]
        rw [hA.1]
        exact hA.append (LRel.replicate _ (.flat rfl))) rfl
      refine calls_of_wp (hE.funcs f fn hf).1 hc (wp_mono hrun fun e a' w' hp => ?_)
      obtain ⟨⟨o, tm, s⟩, ρ', hk, hx, ht, hd, hh, he⟩ := hp
      have fin : ∀ {vs : List Value}, results E s.heap tm fn.results.toList = some vs → K (asOne vs, ⟨tidy st.next (asOne vs) (olds st.next s.log) s.heap, s.next, joinLog (olds st.next s.log) st.log⟩) →
          ∃ v, (Go.results fn a'.tmps).run E.P w' = .ok v w' ∧ CallPost E K ρ st w (.returned v) w' := by
        intro vs hvs hK
        have hS1 : SRel E ρ' ⟨s.heap, s.next, []⟩ w' := by
          have := hS0.after hh he
          exact ⟨this.heap, this.fresh, this.globs, this.orc⟩
        obtain ⟨v', h1, h2⟩ := results_sound hE hS1 ht hvs
        refine ⟨v', h1, _, _, v', ρ', hK, rfl, h2, hh.sub fun i e hf => find_reach hf, ?_⟩
        exact Ext.leave hS.fresh he fun i e hf => find_reach hf
      cases o <;> cases e <;> first
        | exact hx.elim
        | skip
      · unfold leaveCall at hk
        simp only at hk
        split at hk
        · rename_i vs hvs
          exact ⟨hd, fin hvs hk⟩
        · exact hk.elim
      · exact hk.elim
      · exact hk.elim
      · unfold leaveCall at hk
        simp only at hk
        split at hk
        · rename_i vs hvs
          exact ⟨hd, fin hvs hk⟩
        · exact hk.elim
end
end Go.Am
