/- Regions whose order is drawn: all orders. -/
import Derived.Test.YtbhiilfifandhaaAm20
set_option linter.unusedVariables false
set_option linter.unusedSimpArgs false
set_option linter.unusedSectionVars false
namespace Go.Am

/-- How many are not done. -/
def undone : List Bool → Nat
  | [] => 0
  | true :: r => undone r
  | false :: r => undone r + 1
theorem undone_set (l : List Bool) : ∀ (i : Nat), l[i]? = some false → undone (l.set i true) + 1 = undone l := by
  induction l with
  | nil => intro i h; simp at h
  | cons b r ih =>
    intro i h
    cases i with
    | zero => simp at h; subst h; rfl
    | succ i =>
      have := ih i (by simpa using h)
      cases b <;> simp only [List.set_cons_succ, undone] <;> omega
theorem undone_replicate (n : Nat) : undone (List.replicate n false) = n := by
  induction n with
  | zero => rfl
  | succ n ih => simp [List.replicate_succ, undone, ih]
theorem undone_zero (l : List Bool) (h : undone l = 0) : ∀ i, i < l.length → l[i]? = some true := by
  induction l with
  | nil => intro i hi; simp at hi
  | cons b r ih =>
    intro i hi
    cases b with
    | false => simp [undone] at h
    | true =>
      cases i with
      | zero => rfl
      | succ i => simpa using ih (by simpa [undone] using h) i (by simpa using hi)
def setOf (listed : Array Bool) : Nat → Bool := fun k => listed.getD k false
theorem ready_iff {ops : Array Oper} {listed : Array Bool} {i : Nat} : i ∈ Region.ready .any ops listed ↔ i < ops.size ∧ listed.getD i true = false ∧ ∀ o, ops[i]? = some o → ∀ e, e ∈ o.after.toList → Region.binds .any e = true → listed.getD e.on false = true := by
  unfold Region.ready
  rw [List.mem_filter, List.mem_range, Bool.and_eq_true, Bool.not_eq_true']
  refine and_congr_right fun hi => and_congr_right fun hl => ?_
  rw [Array.getElem?_eq_getElem hi]
  simp only [Option.map_some, Option.getD_some, Option.some.injEq, forall_eq']
  rw [← Array.all_toList, List.all_eq_true]
  refine forall_congr' fun e => forall_congr' fun he => ?_
  cases Region.binds .any e <;> simp

section
variable {E : Env} (hE : E.Ok) {cf : CallF} (hC : CallOk E cf) {ops : Array Oper} {tmps0 : List Value} {st0 : St} {ρ0 : Inj} {w0 : World} {recs : List Rec}
include hE hC

theorem drawn_any (hlen : recs.length = ops.size) (hG : GdFrom E cf ops tmps0 st0 [] recs) (N : Notes E (pmOf ops) recs st0) (hS0 : SRel E ρ0 st0 w0) {Q : Exit → Act → World → Prop}
    (hQ : ∀ S ρ a w, (∀ r, r ∈ recs → S r.ix = true) → DInv E recs tmps0 st0 ρ0 w0 S ρ a w → Q .normal a w) (fuel : Nat) : ∀ {listed : Array Bool} {ρ : Inj} {a : Act} {w : World}, listed.size = ops.size → undone listed.toList ≤ fuel →
      DInv E recs tmps0 st0 ρ0 w0 (setOf listed) ρ a w → (∀ q, q ∈ recs → setOf listed q.ix = true → ∀ b, (pmOf ops q.ix).testBit b = true → setOf listed b = true) → wpAny E.P .any ops Q fuel listed a w := by
  have hrec : ∀ i, i < ops.size → ∃ pre r post o, recs = pre ++ r :: post ∧ pre.length = i ∧ r.ix = i ∧ ops[i]? = some o ∧ (∀ e, e ∈ o.after.toList → Region.binds .any e = true → e.on < i) := by
    intro i hi
    have hi' : i < recs.length := by omega
    have hsp : recs = recs.take i ++ recs[i] :: recs.drop (i + 1) := by rw [← List.drop_eq_getElem_cons hi', List.take_append_drop]
    have hl : (recs.take i).length = i := by rw [List.length_take]; omega
    have hg := GdFrom.at (pre := []) (a := recs.take i) (r := recs[i]) (b := recs.drop (i + 1)) (by rw [← hsp]; exact hG)
    rw [List.nil_append] at hg
    obtain ⟨o, h1, h2, h3, h4⟩ := hg
    rw [hl] at h1 h2
    have h5 := (recOf_eq h2).1
    refine ⟨_, _, _, o, hsp, hl, h5, h1, ?_⟩
    simp only [recOk, Bool.and_eq_true] at h3
    have := afterOk_true h3.2
    rw [h5] at this
    exact this
  have hixlt : ∀ r, r ∈ recs → r.ix < ops.size := by
    intro r hr
    obtain ⟨a, b, hab⟩ := List.append_of_mem hr
    have hg := GdFrom.at (pre := []) (a := a) (r := r) (b := b) (hab ▸ hG)
    rw [List.nil_append] at hg
    obtain ⟨o, h1, h2, _⟩ := hg
    rw [(recOf_eq h2).1]
    exact (Array.getElem?_eq_some_iff.1 h1).1
  -- where nothing is ready all is done
  have done : ∀ {listed : Array Bool}, listed.size = ops.size → Region.ready .any ops listed = [] → ∀ r, r ∈ recs → setOf listed r.ix = true := by
    intro listed hsz hnil r hr
    have key : ∀ n i, i < n → i < ops.size → setOf listed i = true := by
      intro n
      induction n with
      | zero => intro i h; omega
      | succ n ih =>
        intro i hin hi
        have hil : i < listed.size := by omega
        by_cases h : listed[i] = true
        · unfold setOf
          rw [Array.getD_eq_getD_getElem?, Array.getElem?_eq_getElem hil]
          simpa using h
        · exfalso
          have : i ∈ Region.ready .any ops listed := by
            refine ready_iff.2 ⟨hi, by rw [Array.getD_eq_getD_getElem?, Array.getElem?_eq_getElem hil]; simpa using h, fun o ho e he hb => ?_⟩
            obtain ⟨_, _, _, o', _, _, _, ho', haf⟩ := hrec i hi
            rw [ho] at ho'
            cases ho'
            have hlt := haf e he hb
            exact ih e.on (by omega) (by omega)
          rw [hnil] at this
          cases this
    exact key _ _ (Nat.lt_succ_self _) (hixlt r hr)
  induction fuel with
  | zero =>
    intro listed ρ a w hsz hu D hcl
    have hall : Region.ready .any ops listed = [] := by
      rw [List.eq_nil_iff_forall_not_mem]
      intro i hi
      obtain ⟨h1, h2, _⟩ := ready_iff.1 hi
      have := undone_zero listed.toList (by omega) i (by simp; omega)
      rw [Array.getElem?_toList] at this
      rw [Array.getD_eq_getD_getElem?, this] at h2
      simp at h2
    exact ⟨hall, hQ _ ρ a w (done hsz hall) D⟩
  | succ fuel ih =>
    intro listed ρ a w hsz hu D hcl
    refine ⟨fun hnil => hQ _ ρ a w (done hsz hnil) D, fun i hi => ?_⟩
    obtain ⟨h1, h2, h3⟩ := ready_iff.1 hi
    obtain ⟨pre, r, post, o, hr, hpl, hix, ho, haf⟩ := hrec i h1
    have hil : i < listed.size := by omega
    have hli : listed.toList[i]? = some false := by
      rw [Array.getElem?_toList, Array.getElem?_eq_getElem hil]
      rw [Array.getD_eq_getD_getElem?, Array.getElem?_eq_getElem hil] at h2
      simpa using h2
    have hSi : setOf listed r.ix = false := by
      rw [hix]
      unfold setOf
      rw [Array.getD_eq_getD_getElem?, ← Array.getElem?_toList, hli]
      rfl
    have hpm : ∀ b, (pmOf ops r.ix).testBit b = true → setOf listed b = true := by
      intro b hb
      rw [hix] at hb
      obtain ⟨e, he, hbd, h4⟩ := pmOf_test ho haf hb
      have hon := h3 o ho e he hbd
      rcases h4 with rfl | h4
      · exact hon
      · obtain ⟨p', r', q', o', hr', _, hix', _⟩ := hrec e.on (by have := haf e he hbd; omega)
        exact hcl r' (by rw [hr']; simp) (by rw [hix']; exact hon) b (by rw [hix']; exact h4)
    have hadd : setOf (listed.setIfInBounds i true) = addS (setOf listed) r.ix := by
      funext k
      unfold setOf addS
      rw [hix]
      simp only [Array.getD_eq_getD_getElem?]
      rw [Array.getElem?_setIfInBounds]
      by_cases hk : i = k
      · subst hk; simp [hil]
      · have : (k == i) = false := by simp; exact fun h => hk h.symm
        simp [hk, this]
    have := exec_one hE hC hG N hS0 hr D hcl hSi hpm (Q := Q) (K := wpAny E.P .any ops Q fuel (listed.setIfInBounds i true)) fun ρ' a' w' D' => by
      refine ih (by simpa using hsz) ?_ (by rw [hadd]; exact D') ?_
      · have := undone_set listed.toList i hli
        rw [Array.toList_setIfInBounds]
        omega
      · intro q hq hs b hb
        rw [hadd] at hs ⊢
        unfold addS at hs ⊢
        rw [Bool.or_eq_true] at hs ⊢
        rcases hs with hs | hs
        · have hqi : q.ix = r.ix := by simpa using hs
          rw [hqi] at hb
          exact .inr (hpm b hb)
        · exact .inr (hcl q hq hs b hb)
    rw [hix] at this
    exact this

theorem draw_ok (id : Nat) (ops : Array Oper) : RunOk E (fun tmps st => drawn E cf ops ops.toList (before ops.toList []) 0 [] tmps st) (.region id ops true) := by
  intro tmps0 st0 K ρ0 a w h hS hT hD
  obtain ⟨recs, hlen, hG, hK⟩ := drawn_notes (tmps0 := tmps0) (st0 := st0) ops.toList [] rfl h
  rw [List.nil_append] at hK
  obtain ⟨n1, n2⟩ := hG.notes
  have N : Notes E (pmOf ops) recs st0 := ⟨n1, fun r hr => ⟨(n2 r hr).1, (n2 r hr).2.1, (n2 r hr).2.2.1⟩, fun r hr => (n2 r hr).2.2.2.1, fun r hr => (n2 r hr).2.2.2.2⟩
  have hng : ∀ S, (∀ k, S k = false) → (∀ t, TS recs tmps0 st0 S t = (get tmps0 t).map (·, st0.next)) ∧ (∀ i, HS recs st0 S i = (find st0.heap i).map (·, st0.next)) := fun S hS0 =>
    ⟨fun t => Fold_skip recs (fun r _ => .inr (hS0 _)) _, fun i => Fold_skip recs (fun r _ => .inr (hS0 _)) _⟩
  refine wp_region_any hE.mixed (drawn_any (w0 := w) (tmps0 := tmps0) hE hC (by simpa using hlen) hG N hS (fun S ρ a' w' hall D => ?_) ops.size (ρ := ρ0) (by simp) ?_ ?_ ?_)
  · -- all are done
    have hTS : ∀ t, get (tmpsAt recs tmps0) t = (TS recs tmps0 st0 S t).map (·.1) := fun t => by
      rw [tmpsAt_get t st0.next recs tmps0 ((get tmps0 t).map (·, st0.next)) (by cases get tmps0 t <;> rfl)]
      unfold TS
      rw [Fold_congr (S := S) (S' := allS) recs fun r hr => .inr (by rw [hall r hr]; rfl)]
    have hHS := fun i => stAt_find i recs st0 ((find st0.heap i).map (·, st0.next)) (fun k e h => find_ne_fresh hS h) (n1.imp fun h => h.2.1) (fun p hp => N.lo p hp) (fun e h => ⟨st0.next, by rw [h]; rfl⟩)
    have hHS2 : ∀ i e, find (stAt recs st0).heap i = some e → ∃ n, HS recs st0 S i = some (e, n) := fun i e h => by
      obtain ⟨n, hn⟩ := (hHS i).1 e h
      refine ⟨n, ?_⟩
      unfold HS
      rw [Fold_congr (S := S) (S' := allS) recs fun r hr => .inr (by rw [hall r hr]; rfl)]
      exact hn
    have hlog : ∀ (l : List Rec) (st : St) i, i ∈ (stAt l st).log ↔ i ∈ st.log ∨ ∃ r, r ∈ l ∧ i ∈ r.wr := by
      intro l
      induction l with
      | nil => intro st i; simp [stAt]
      | cons r l ih =>
        intro st i
        show i ∈ (stAt l (stRec r st)).log ↔ _
        rw [ih]
        show (i ∈ joinLog r.wr st.log ∨ _) ↔ _
        rw [mem_joinLog]
        constructor
        · rintro ((h | h) | ⟨x, h1, h2⟩)
          · exact .inr ⟨r, List.mem_cons_self .., h⟩
          · exact .inl h
          · exact .inr ⟨x, List.mem_cons_of_mem _ h1, h2⟩
        · rintro (h | ⟨x, h1, h2⟩)
          · exact .inl (.inr h)
          · rcases List.mem_cons.1 h1 with rfl | h1
            · exact .inl (.inl h2)
            · exact .inr ⟨x, h1, h2⟩
    have hLS : ∀ i, LS recs st0 S i ↔ i ∈ (stAt recs st0).log := fun i => by
      rw [hlog]
      unfold LS
      refine or_congr_right ⟨fun ⟨r, h1, _, h3⟩ => ⟨r, h1, h3⟩, fun ⟨r, h1, h3⟩ => ⟨r, h1, hall r h1, h3⟩⟩
    have hnext : ∀ r, r ∈ recs → r.hi ≤ (stAt recs st0).next := by
      intro r hr
      obtain ⟨x, y, hxy⟩ := List.append_of_mem hr
      have hg := hG
      rw [hxy, show x ++ r :: y = (x ++ [r]) ++ y by simp] at hg
      have h1 : GdFrom E cf ops tmps0 st0 (x ++ [r]) y := by
        have : ∀ (pre a b : List Rec), GdFrom E cf ops tmps0 st0 pre (a ++ b) → GdFrom E cf ops tmps0 st0 (pre ++ a) b := by
          intro pre a
          induction a generalizing pre with
          | nil => intro b h; simpa using h
          | cons z a ih => intro b h; have := ih (pre ++ [z]) b h.2; simpa using this
        simpa using this [] (x ++ [r]) y hg
      have h2 := GdFrom.next (pre := x ++ [r]) (a := y) (b := []) (by simpa using h1)
      rw [stAt_snoc] at h2
      have h3 : (stRec r (stAt x st0)).next = r.hi := rfl
      rw [h3] at h2
      rw [hxy]
      simpa using h2
    refine ⟨_, ρ, hK, trivial, ⟨?_, fun j v v' hv hv' => ?_⟩, D.defers, ⟨fun i o b h => ?_, fun i k b e mi mk hi hk hik h1 h2 => ?_⟩, ?_⟩
    · -- lengths
      have key : ∀ t, t < (tmpsAt recs tmps0).length ↔ t < a'.tmps.toList.length := fun t => by
        have h1 := hTS t
        rw [get_eq] at h1
        cases hc : TS recs tmps0 st0 S t with
        | none =>
          rw [hc] at h1
          have h2 := (D.tm t).1 hc
          rw [Array.getElem?_eq_none_iff] at h2
          have h3 := List.getElem?_eq_none_iff.1 h1
          simp only [Array.length_toList]
          omega
        | some x =>
          rw [hc] at h1
          obtain ⟨v, n⟩ := x
          obtain ⟨v', h2, _⟩ := (D.tm t).2 v n hc
          have h3 := (Array.getElem?_eq_some_iff.1 h2).1
          have h4 := (List.getElem?_eq_some_iff.1 h1).1
          simp only [Array.length_toList]
          omega
      have k1 := key (tmpsAt recs tmps0).length
      have k2 := key a'.tmps.toList.length
      show (tmpsAt recs tmps0).length = a'.tmps.toList.length
      omega
    · have h1 := hTS j
      rw [get_eq] at h1
      have hv2 : (tmpsAt recs tmps0)[j]? = some v := hv
      rw [h1] at hv2
      obtain ⟨⟨v1, n⟩, h2, h3⟩ := Option.map_eq_some_iff.1 hv2
      simp only at h3
      subst h3
      obtain ⟨u, h4, h5⟩ := (D.tm j).2 v1 n h2
      rw [Array.getElem?_toList, h4] at hv'
      cases hv'
      exact h5.mono (Inj.upto_le _ _)
    · obtain ⟨n, h1⟩ := hHS2 i _ h
      exact (D.hp i o b n h1).keep (Inj.upto_le _ _) fun _ _ => rfl
    · obtain ⟨n, g1⟩ := hHS2 i _ hi
      obtain ⟨n', g2⟩ := hHS2 k _ hk
      exact D.inj i k b e mi mk n n' g1 g2 hik h1 h2
    · exact {
        le := D.le
        next := by
          have := GdFrom.next (pre := []) (a := recs) (b := []) (by simpa using hG)
          simpa [stAt] using this
        new := fun i m h1 h2 => by
          obtain ⟨r, g1, _, g3, g4⟩ := D.new i m h1 h2
          have := (N.lo r g1).1
          have := hnext r g1
          exact ⟨by omega, by show i < (stAt recs st0).next; omega⟩
        acq := fun i m h1 h2 => (D.acq i m h1 h2).imp (fun h => h) fun ⟨j, mj, g1, g2⟩ => ⟨j, mj, (hLS j).1 g1, g2⟩
        log := fun i h1 _ => (hLS i).1 (.inl h1)
        frame := fun r hr hn => D.frame r hr fun j mj g1 g2 => hn j mj ((hLS j).1 g1) g2
        size := D.size
        own := fun i h1 h2 h3 => D.own i ((hLS i).2 h1) h2 h3
        own' := fun i b h1 h2 => by
          obtain ⟨n, g1⟩ := hHS2 i _ h2
          exact D.own' i b n h1 g1
        os := D.os
        tape := D.tape
        output := D.output }
  · rw [Array.toList_replicate, undone_replicate]; exact Nat.le_refl _
  · -- the begin
    have hz : ∀ k, setOf (Array.replicate ops.size false) k = false := fun k => by
      unfold setOf
      rw [Array.getD_eq_getD_getElem?, Array.getElem?_replicate]
      split <;> rfl
    obtain ⟨z1, z2⟩ := hng _ hz
    refine ⟨fun t => ?_, fun i o b n h => ?_, fun i k b e mi mk n n' hi hk hik h1 h2 => ?_, fun i m h1 h2 => (by rw [h1] at h2; cases h2), Inj.le.refl _, fun i m h1 h2 => (by rw [h1] at h2; cases h2), fun _ _ _ => rfl, Nat.le_refl _, fun i h1 h2 h3 => ?_, fun i b n h1 h2 => ?_, rfl, rfl, rfl, hD⟩
    · rw [z1 t]
      have hl := hT.1
      constructor
      · intro h0
        have h0' : get tmps0 t = none := by simpa using h0
        rw [get_eq, List.getElem?_eq_none_iff] at h0'
        rw [Array.getElem?_eq_none_iff]
        simp only [Array.length_toList] at hl
        omega
      · intro v n h0
        obtain ⟨u, h1, h2⟩ := Option.map_eq_some_iff.1 h0
        cases h2
        rw [get_eq] at h1
        obtain ⟨v', h3, h4⟩ := hT.get h1
        refine ⟨v', by simpa using h3, ?_⟩
        refine h4.mono fun i m hi => Inj.upto_of hi ?_
        rcases Nat.lt_or_ge i st0.next with h | h
        · exact h
        · rw [hS.fresh i h] at hi; cases hi
    · rw [z2 i] at h
      obtain ⟨u, h1, h2⟩ := Option.map_eq_some_iff.1 h
      cases h2
      have := hS.heap.blk i o b h1
      refine BRel.keep (w := w) (fun i m hi => Inj.upto_of hi ?_) (fun _ _ => rfl) this
      rcases Nat.lt_or_ge i st0.next with h | h
      · exact h
      · rw [hS.fresh i h] at hi; cases hi
    · rw [z2 i] at hi
      rw [z2 k] at hk
      obtain ⟨u, g1, g2⟩ := Option.map_eq_some_iff.1 hi
      obtain ⟨u', g3, g4⟩ := Option.map_eq_some_iff.1 hk
      cases g2
      cases g4
      exact hS.heap.inj i k b _ mi mk g1 g3 hik h1 h2
    · rcases h1 with h1 | ⟨r, _, g2, _⟩
      · exact absurd h1 h2
      · rw [hz] at g2; cases g2
    · rw [z2 i] at h2
      obtain ⟨u, g1, g2⟩ := Option.map_eq_some_iff.1 h2
      cases g2
      exact ⟨b, g1⟩
  · intro q hq hs
    have hz : ∀ k, setOf (Array.replicate ops.size false) k = false := fun k => by
      unfold setOf
      rw [Array.getD_eq_getD_getElem?, Array.getElem?_replicate]
      split <;> rfl
    rw [hz] at hs
    cases hs
end
theorem drawOk {E : Env} (hE : E.Ok) : DrawOk E := fun cf hC id ops => draw_ok hE hC id ops
/-- Calls: whatever the machine says of a call holds of the model's. -/
theorem callOk {E : Env} (hE : E.Ok) (hP : PrimOk E) (N n : Nat) : CallOk E (call E N n) := call_ok hE hP (drawOk hE) N n
end Go.Am
