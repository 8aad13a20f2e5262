/- What the model's run of an operation comes to, operation by operation: maps. -/
import Derived.Test.YtbhiilfifandhaaAm9
set_option linter.unusedVariables false
set_option linter.unusedSimpArgs false
set_option linter.unusedSectionVars false
namespace Go.Am

theorem pureRun_bind {P : Program} {α β : Type} (x : Sem α) (f : α → Sem β) {r : β} (h : pureRun P (x >>= f) = some r) : ∃ a, pureRun P x = some a ∧ pureRun P (f a) = some r := by
  induction x with
  | pure a => exact ⟨a, rfl, h⟩
  | program k ih => exact ih P h
  | _ => cases h
theorem flatKeys_iff (es : List MapEntry) : flatKeys es = true ↔ ∀ e, e ∈ es → flat e.key = true := by
  induction es with
  | nil => simp [flatKeys]
  | cons e r ih => simp [flatKeys, ih]
theorem ERel.cons_inv {ρ : Inj} {e : MapEntry} {es es' : List MapEntry} (h : ERel ρ (e :: es) es') : ∃ e' r', es' = e' :: r' ∧ VRel ρ e.key e'.key ∧ VRel ρ e.val e'.val ∧ e.born = e'.born ∧ ERel ρ es r' := by
  cases es' with
  | nil => have := h.1; simp at this
  | cons e' r' =>
    obtain ⟨h1, h2, h3⟩ := h.2 0 e e' rfl rfl
    exact ⟨e', r', rfl, h1, h2, h3, by simpa using h.1, fun j a a' ha ha' => h.2 (j + 1) a a' (by simpa using ha) (by simpa using ha')⟩
theorem ERel.cons {ρ : Inj} {e e' : MapEntry} {es es' : List MapEntry} (h1 : VRel ρ e.key e'.key) (h2 : VRel ρ e.val e'.val) (h3 : e.born = e'.born) (h : ERel ρ es es') : ERel ρ (e :: es) (e' :: es') :=
  ⟨by simp [h.1], fun j a a' ha ha' => by
    cases j with
    | zero => simp at ha ha'; subst ha; subst ha'; exact ⟨h1, h2, h3⟩
    | succ j => exact h.2 j a a' (by simpa using ha) (by simpa using ha')⟩
theorem ERel.nil_inv {ρ : Inj} {es' : List MapEntry} (h : ERel ρ [] es') : es' = [] := by
  cases es' with
  | nil => rfl
  | cons a r => have := h.1; simp at this
theorem ERel.nil (ρ : Inj) : ERel ρ [] [] := ⟨rfl, by simp⟩
theorem ERel.get {ρ : Inj} {es es' : List MapEntry} (h : ERel ρ es es') {j : Nat} {e : MapEntry} (hj : es[j]? = some e) : ∃ e', es'[j]? = some e' ∧ VRel ρ e.key e'.key ∧ VRel ρ e.val e'.val ∧ e.born = e'.born := by
  have hlt := (List.getElem?_eq_some_iff.1 hj).1
  have hlt' : j < es'.length := h.1 ▸ hlt
  exact ⟨es'[j], List.getElem?_eq_getElem hlt', h.2 j e _ hj (List.getElem?_eq_getElem hlt')⟩
theorem ERel.append {ρ : Inj} {a a' b b' : List MapEntry} (h : ERel ρ a a') (h' : ERel ρ b b') : ERel ρ (a ++ b) (a' ++ b') := by
  induction a generalizing a' with
  | nil => rw [h.nil_inv]; exact h'
  | cons e r ih =>
    obtain ⟨e', r', rfl, h1, h2, h3, h4⟩ := h.cons_inv
    exact (ih h4).cons h1 h2 h3
theorem ERel.filter {ρ : Inj} (p : MapEntry → Bool) (hp : ∀ e e' : MapEntry, e.born = e'.born → p e = p e') {a a' : List MapEntry} (h : ERel ρ a a') : ERel ρ (a.filter p) (a'.filter p) := by
  induction a generalizing a' with
  | nil => rw [h.nil_inv]; exact ERel.nil ρ
  | cons e r ih =>
    obtain ⟨e', r', rfl, h1, h2, h3, h4⟩ := h.cons_inv
    by_cases hb : p e = true
    · rw [List.filter_cons_of_pos hb, List.filter_cons_of_pos (by rw [← hp e e' h3]; exact hb)]
      exact (ih h4).cons h1 h2 h3
    · rw [List.filter_cons_of_neg hb, List.filter_cons_of_neg (by rw [← hp e e' h3]; exact hb)]
      exact ih h4
theorem ERel.keys {ρ : Inj} {es es' : List MapEntry} (h : ERel ρ es es') (hf : flatKeys es = true) : (es.map bare).map (·.key) = es'.map (·.key) := by
  induction es generalizing es' with
  | nil => rw [h.nil_inv]; rfl
  | cons e r ih =>
    obtain ⟨e', r', rfl, h1, h2, h3, h4⟩ := h.cons_inv
    simp only [flatKeys, Bool.and_eq_true] at hf
    simp only [List.map_cons, ih h4 hf.2]
    rw [h1.same hf.1]
    rfl
/-- What a search comes to, in a list and in another with the same keys. -/
def Found (es' : List MapEntry) (n : Nat) (r r' : Option (Nat × Value)) : Prop :=
  match r with
  | none => r' = none
  | some (i, _) => n ≤ i ∧ ∃ e', es'[i - n]? = some e' ∧ r' = some (i, e'.val)
theorem Found.tail {e : MapEntry} {es' : List MapEntry} {n : Nat} {r r' : Option (Nat × Value)} (h : Found es' (n + 1) r r') : Found (e :: es') n r r' := by
  unfold Found at *
  cases r with
  | none => exact h
  | some x =>
    obtain ⟨i, v⟩ := x
    obtain ⟨h1, e', h2, h3⟩ := h
    refine ⟨by omega, e', ?_, h3⟩
    rw [show i - n = (i - (n + 1)) + 1 by omega]
    simpa using h2
theorem findNow_keys (kind : TypeDesc) (k : Value) (es : List MapEntry) : ∀ (es' : List MapEntry) (n : Nat), es.map (·.key) = es'.map (·.key) →
    match Instr.findNow kind k es n with
    | none => Instr.findNow kind k es' n = none
    | some r => ∃ r', Instr.findNow kind k es' n = some r' ∧ Found es' n r r' := by
  induction es with
  | nil =>
    intro es' n h
    have : es' = [] := by simpa using h.symm
    subst this
    exact ⟨none, rfl, rfl⟩
  | cons e r ih =>
    intro es' n h
    cases es' with
    | nil => simp at h
    | cons e' r' =>
      simp only [List.map_cons, List.cons.injEq] at h
      have := ih r' (n + 1) h.2
      unfold Instr.findNow
      rw [← h.1]
      cases hs : Instr.sameNow kind k e.key with
      | none => rfl
      | some b =>
        cases b with
        | true => exact ⟨_, rfl, Nat.le_refl _, e', by simp, rfl⟩
        | false =>
          simp only
          cases hr : Instr.findNow kind k r (n + 1) with
          | none => rw [hr] at this; exact this
          | some x =>
            rw [hr] at this
            obtain ⟨r'', h1, h2⟩ := this
            exact ⟨r'', h1, h2.tail⟩
theorem findAsking_keys {P : Program} (kt : TypeId) (k : Value) (es : List MapEntry) : ∀ (es' : List MapEntry) (n : Nat) {r : Option (Nat × Value)}, es.map (·.key) = es'.map (·.key) → pureRun P (Instr.findAsking kt k es n) = some r →
    ∃ r', (∀ w, (Instr.findAsking kt k es' n).run P w = .ok r' w) ∧ Found es' n r r' := by
  induction es with
  | nil =>
    intro es' n r h hr
    have : es' = [] := by simpa using h.symm
    subst this
    simp only [Instr.findAsking, pureRun] at hr
    cases hr
    exact ⟨none, fun _ => rfl, rfl⟩
  | cons e l ih =>
    intro es' n r h hr
    cases es' with
    | nil => simp at h
    | cons e' l' =>
      simp only [List.map_cons, List.cons.injEq] at h
      unfold Instr.findAsking at hr
      obtain ⟨b, hb, hr⟩ := pureRun_bind _ _ hr
      have hrun := fun w => pureRun_run _ hb w
      cases b with
      | true =>
        simp only [if_true] at hr
        cases hr
        exact ⟨some (n, e'.val), fun w => by unfold Instr.findAsking; rw [← h.1]; simp [hrun w], Nat.le_refl _, e', by simp, rfl⟩
      | false =>
        simp only [Bool.false_eq_true, if_false] at hr
        obtain ⟨r', h1, h2⟩ := ih l' (n + 1) h.2 hr
        exact ⟨r', fun w => by unfold Instr.findAsking; rw [← h.1]; simp [hrun w, h1 w], h2.tail⟩
theorem instrFindKey_keys {P : Program} (kt : TypeId) (k : Value) (es es' : List MapEntry) {r : Option (Nat × Value)} (h : es.map (·.key) = es'.map (·.key)) (hr : pureRun P (Instr.findKey kt k es) = some r) :
    ∃ r', (∀ w, (Instr.findKey kt k es').run P w = .ok r' w) ∧ Found es' 0 r r' := by
  unfold Instr.findKey at hr
  obtain ⟨d, hd, hr⟩ := pureRun_bind _ _ hr
  have hrun := fun w => pureRun_run _ hd w
  have hn := findNow_keys d k es es' 0 h
  cases hf : Instr.findNow d k es 0 with
  | none =>
    rw [hf] at hn hr
    obtain ⟨r', h1, h2⟩ := findAsking_keys kt k es es' 0 h hr
    simp only at hn
    exact ⟨r', fun w => by simp [Instr.findKey, hrun w, hn, h1 w], h2⟩
  | some x =>
    rw [hf] at hn hr
    obtain ⟨r', h1, h2⟩ := hn
    cases hr
    exact ⟨r', fun w => by simp [Instr.findKey, hrun w, h1], h2⟩
/-- A key's place. -/
theorem findKey_run {P : Program} {ρ : Inj} {empty : Bool} {kt : TypeId} {k : Value} {es es' : List MapEntry} {r : Option Nat} (hr : ERel ρ es es') (h : findKey P empty kt k es = some r) (w : World) :
    flat k = true ∧ flatKeys es = true ∧ (Instr.checkKey empty 10000 kt k).run P w = .ok () w ∧
      match r with
      | none => (Instr.findKey kt k es').run P w = .ok none w
      | some j => ∃ e', es'[j]? = some e' ∧ (Instr.findKey kt k es').run P w = .ok (some (j, e'.val)) w := by
  unfold findKey at h
  split at h
  · rename_i hf
    simp only [Bool.and_eq_true] at hf
    split at h
    · rename_i i v hp
      cases h
      obtain ⟨_, h1, h2⟩ := pureRun_bind _ _ hp
      obtain ⟨r', h3, h4⟩ := instrFindKey_keys kt k _ es' (hr.keys hf.2) h2
      obtain ⟨_, e', h5, rfl⟩ := h4
      exact ⟨hf.1, hf.2, pureRun_run _ h1 w, e', by simpa using h5, h3 w⟩
    · rename_i hp
      cases h
      obtain ⟨_, h1, h2⟩ := pureRun_bind _ _ hp
      obtain ⟨r', h3, h4⟩ := instrFindKey_keys kt k _ es' (hr.keys hf.2) h2
      cases h4
      exact ⟨hf.1, hf.2, pureRun_run _ h1 w, h3 w⟩
    · cases h
  · cases h
theorem setEntry_rel {ρ : Inj} {k k' v v' : Value} (hk : VRel ρ k k') (hv : VRel ρ v v') (es : List MapEntry) : ∀ {es' : List MapEntry} (j : Nat), ERel ρ es es' → ERel ρ (setEntry es j k v) (es'.modify j fun e => { e with key := k', val := v' }) := by
  induction es with
  | nil => intro es' j h; rw [h.nil_inv]; simpa [setEntry] using ERel.nil ρ
  | cons e r ih =>
    intro es' j h
    obtain ⟨e', r', rfl, h1, h2, h3, h4⟩ := h.cons_inv
    cases j with
    | zero => exact h4.cons hk hv h3
    | succ j => simpa [setEntry] using (ih j h4).cons h1 h2 h3
theorem dropEntry_rel {ρ : Inj} (es : List MapEntry) : ∀ {es' : List MapEntry} (j : Nat), ERel ρ es es' → ERel ρ (dropEntry es j) (es'.eraseIdx j) := by
  induction es with
  | nil => intro es' j h; rw [h.nil_inv]; simpa [dropEntry] using ERel.nil ρ
  | cons e r ih =>
    intro es' j h
    obtain ⟨e', r', rfl, h1, h2, h3, h4⟩ := h.cons_inv
    cases j with
    | zero => exact h4
    | succ j => simpa [dropEntry] using (ih j h4).cons h1 h2 h3

section
variable {E : Env} (hE : E.Ok) {ρ : Inj} {st : St} {w : World} (hS : SRel E ρ st w) {tmps : List Value} {a : Act}
include hE hS

theorem lookup_sound {t : TypeId} {x y : Operand} {ok : Bool} {v : Value} (hx : EvR E ρ tmps a x) (hy : EvR E ρ tmps a y) (h : stepLookup E tmps t x y ok st = some v) : Val E ρ st w ((Instr.lookup t (a.eval x) (a.eval y) ok).run E.P w) v st := by
  unfold stepLookup at h
  split at h
  case h_2 => cases h
  rename_i mv k kt elem h1 h2 h3
  obtain ⟨d, hd, hk'⟩ := hE.kd h3
  obtain rfl := kdOf_map hk'
  split at h
  · cases h
  · rename_i es hes
    have hm : ∃ es', ERel ρ es es'.toList ∧ ((a.eval x = .map none ∧ es' = #[]) ∨ ∃ b cl, a.eval x = .map (some b) ∧ w.heap[b]? = some (.map es' cl)) := by
      unfold entriesOf at hes
      split at hes
      · cases hes
        exact ⟨#[], ERel.nil ρ, .inl ⟨(hx _ h1).same rfl, rfl⟩⟩
      · rename_i i
        split at hes
        · rename_i o es0 cl hm
          cases hes
          obtain ⟨m0, es', q1, q2, q3⟩ := hS.heap.blk _ _ _ (mapAt_eq hm)
          obtain ⟨m1, hm1, he⟩ := map_inv (hx _ h1)
          rw [q1] at hm1
          cases hm1
          exact ⟨es', q3, .inr ⟨_, _, he, q2⟩⟩
        · cases hes
      · cases hes
    obtain ⟨es', hrel, hm⟩ := hm
    have hemp : es'.isEmpty = es.isEmpty := by
      have := hrel.1
      cases es with
      | nil => simp at this; simp [Array.isEmpty, ← this]
      | cons e r =>
        simp at this
        have h0 : ¬ (es'.size = 0) := by omega
        simp only [Array.isEmpty, List.isEmpty_cons, h0, decide_false]
    split at h
    · rename_i j hf
      obtain ⟨hfk, hfe, hck, e', he', hfr⟩ := findKey_run hrel hf w
      rw [(hy _ h2).same hfk]
      split at h
      · rename_i e he
        cases h
        rw [get_eq] at he
        obtain ⟨e'', g1, g2, g3, g4⟩ := hrel.get he
        rw [he'] at g1
        cases g1
        refine Val.here hS (v' := found ok e'.val true) ?_ ?_
        · rcases hm with ⟨e1, rfl⟩ | ⟨b, cl, e1, e2⟩
          · simp at he'
          · rw [e1]
            have hgo : (getObj b).run E.P w = .ok (.map es' cl) w := by simp [getObj, Sem.run, e2]
            simp only [Instr.lookup, Sem.run_bind, am_underlying w hd, Result.andThen_ok, hgo, Sem.run_pure, hemp, hck, hfr]
            cases ok <;> rfl
        · unfold found
          split
          · exact VRel.mk_tuple (((LRel.nil ρ).cons (.flat rfl)).cons g3)
          · exact g3
      · cases h
    · rename_i hf
      obtain ⟨hfk, hfe, hck, hfr⟩ := findKey_run hrel hf w
      rw [(hy _ h2).same hfk]
      split at h
      · rename_i z hz
        cases h
        obtain ⟨i, hi1, hi2, hi3, _⟩ := hE.zero hz
        refine Val.here hS (v' := found ok z false) ?_ ?_
        · rcases hm with ⟨e1, rfl⟩ | ⟨b, cl, e1, e2⟩
          · rw [e1]
            simp only [Instr.lookup, Sem.run_bind, am_underlying w hd, Result.andThen_ok, Sem.run_pure, hemp, hck, hfr, am_zeroValue w hi1 hi2]
            cases ok <;> rfl
          · rw [e1]
            have hgo : (getObj b).run E.P w = .ok (.map es' cl) w := by simp [getObj, Sem.run, e2]
            simp only [Instr.lookup, Sem.run_bind, am_underlying w hd, Result.andThen_ok, hgo, Sem.run_pure, hemp, hck, hfr, am_zeroValue w hi1 hi2]
            cases ok <;> rfl
        · unfold found
          split
          · exact VRel.mk_tuple (((LRel.nil ρ).cons (.flat rfl)).cons (.flat hi3))
          · exact .flat hi3
      · cases h
    · cases h
theorem mapUpdate_sound {t : TypeId} {x y z : Operand} {v : Value} {st' : St} (hx : EvR E ρ tmps a x) (hy : EvR E ρ tmps a y) (hz : EvR E ρ tmps a z) (h : stepMapUpdate E tmps t x y z st = some (.val v st')) :
    v = .tuple #[] ∧ UnitTo E ρ st w ((Instr.mapUpdate t (a.eval x) (a.eval y) (a.eval z)).run E.P w) st' := by
  unfold stepMapUpdate at h
  split at h
  case h_2 => cases h
  rename_i i k u kt elem h1 h2 h3 h4
  obtain ⟨d, hd, hk'⟩ := hE.kd h4
  obtain rfl := kdOf_map hk'
  split at h
  · rename_i es cl hm
    have hfd := mapAt_eq hm
    obtain ⟨m0, es', q1, q2, q3⟩ := hS.heap.blk _ _ _ hfd
    obtain ⟨m1, hm1, he⟩ := map_inv (hx _ h1)
    rw [q1] at hm1
    cases hm1
    have hb := (Array.getElem?_eq_some_iff.1 q2).1
    rw [he]
    split at h
    · rename_i j hf
      obtain ⟨hfk, hfe, hck, e', he', hfr⟩ := findKey_run q3 hf w
      rw [(hy _ h2).same hfk]
      split at h
      · rename_i e hej
        split at h
        · rename_i hsame
          cases h
          refine ⟨rfl, ?_⟩
          rw [get_eq] at hej
          obtain ⟨e'', g1, g2, g3, g4⟩ := q3.get hej
          rw [he'] at g1
          cases g1
          have hkey : e'.key = e.key := g2.same ((flatKeys_iff es).1 hfe e (List.mem_of_getElem? hej))
          have hstay : (Instr.keyThatStays (((es'[j]?).map (·.key)).getD k) k).run E.P w = .ok k w := by
            rw [← Array.getElem?_toList, he']
            simp [Instr.keyThatStays, hkey, hsame]
          obtain ⟨g5, g6⟩ := set_rel (w' := w.setBlk m0.blk (.map (es'.modify j fun e => { e with key := k, val := a.eval z }) cl)) (b' := .map (setEntry es j k u) cl) hS hfd q1
            ⟨m0, _, q1, setBlk_same hb, by
              rw [show (es'.modify j fun e => { e with key := k, val := a.eval z }).toList = es'.toList.modify j fun e => { e with key := k, val := a.eval z } by simp]
              exact setEntry_rel (.flat hfk) (hz _ h3) es j q3⟩ (fun r hr => setBlk_other hr) (by simp) rfl rfl rfl
          refine ⟨_, ρ, ?_, g5, g6⟩
          simp only [Instr.mapUpdate, Sem.run_bind, am_underlying w hd, Result.andThen_ok, getObj, Sem.run, q2, hck, hfr, hstay, setObj]
          rfl
        · cases h
      · cases h
    · rename_i hf
      obtain ⟨hfk, hfe, hck, hfr⟩ := findKey_run q3 hf w
      rw [(hy _ h2).same hfk]
      cases h
      refine ⟨rfl, ?_⟩
      obtain ⟨g5, g6⟩ := set_rel (w' := w.setBlk m0.blk (.map (es'.push { key := k, val := a.eval z, born := cl }) (cl + 1))) (b' := .map (es ++ [⟨k, u, cl⟩]) (cl + 1)) hS hfd q1
        ⟨m0, _, q1, setBlk_same hb, by
          rw [show (es'.push { key := k, val := a.eval z, born := cl }).toList = es'.toList ++ [{ key := k, val := a.eval z, born := cl }] by simp]
          exact q3.append ((ERel.nil ρ).cons (.flat hfk) (hz _ h3) rfl)⟩ (fun r hr => setBlk_other hr) (by simp) rfl rfl rfl
      refine ⟨_, ρ, ?_, g5, g6⟩
      simp only [Instr.mapUpdate, Sem.run_bind, am_underlying w hd, Result.andThen_ok, getObj, Sem.run, q2, hck, hfr, setObj]
      rfl
    · cases h
  · cases h
end
end Go.Am
