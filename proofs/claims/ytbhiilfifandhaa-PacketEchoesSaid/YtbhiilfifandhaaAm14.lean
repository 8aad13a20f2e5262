/- What the model's run of an operation comes to: ranges over maps, calls, and all of them at once. -/
import Derived.Test.YtbhiilfifandhaaAm13
set_option linter.unusedVariables false
set_option linter.unusedSimpArgs false
set_option linter.unusedSectionVars false
namespace Go.Am

/-- What a step of a range may come to, in the machine and in the model. -/
def CRel (ρ : Inj) : Option MapEntry → Option MapEntry → Prop
  | none, none => True
  | some e, some e' => VRel ρ e.key e'.key ∧ VRel ρ e.val e'.val ∧ e.born = e'.born
  | _, _ => False
theorem cands_rel {ρ : Inj} {es es' : List MapEntry} (h : ERel ρ es es') (since : Nat) (seen : List Nat) :
    (cands es since seen).length = (cands es' since seen).length ∧ ∀ (j : Nat) c c', (cands es since seen)[j]? = some c → (cands es' since seen)[j]? = some c' → CRel ρ c c' := by
  have hl := h.filter (fun e => !seen.contains e.born) (fun e e' hb => by simp only [hb])
  have ho := hl.filter (fun e => decide (e.born < since)) (fun e e' hb => by simp only [hb])
  have hn := hl.filter (fun e => decide (e.born ≥ since)) (fun e e' hb => by simp only [hb])
  have ha := ho.append hn
  unfold cands
  generalize (es.filter fun e => !seen.contains e.born) = l at *
  generalize (es'.filter fun e => !seen.contains e.born) = l' at *
  simp only
  generalize (l.filter fun e => decide (e.born < since)) = o at *
  generalize (l'.filter fun e => decide (e.born < since)) = o' at *
  generalize (l.filter fun e => decide (e.born ≥ since)) = n at *
  generalize (l'.filter fun e => decide (e.born ≥ since)) = n' at *
  have hem : o.isEmpty = o'.isEmpty := by
    have := ho.1
    cases o <;> cases o' <;> simp_all
  rw [← hem]
  have hpre : ∀ c, c ∈ (if o.isEmpty = true then [none] else [] : List (Option MapEntry)) → c = none := by
    intro c hc
    split at hc
    · simpa using hc
    · cases hc
  generalize (if o.isEmpty = true then [none] else [] : List (Option MapEntry)) = pre at hpre
  refine ⟨by simp [ha.1]; have := ha.1; simp at this; omega, fun j c c' hc hc' => ?_⟩
  by_cases hj : j < pre.length
  · rw [List.getElem?_append_left hj] at hc hc'
    rw [hc] at hc'
    cases hc'
    rw [hpre c (List.mem_of_getElem? hc)]
    trivial
  · rw [List.getElem?_append_right (by omega), List.getElem?_map] at hc hc'
    obtain ⟨e, h1, rfl⟩ := Option.map_eq_some_iff.1 hc
    obtain ⟨e', h2, rfl⟩ := Option.map_eq_some_iff.1 hc'
    exact ha.2 _ _ _ h1 h2
theorem cands_pos (es : List MapEntry) (since : Nat) (seen : List Nat) : 0 < (cands es since seen).length := by
  unfold cands
  simp only
  generalize (List.filter (fun e => decide (e.born < since)) (List.filter (fun e => !seen.contains e.born) es)) = o
  cases o with
  | nil => simp
  | cons a r => simp
theorem cands_arr (es : Array MapEntry) (since : Nat) (seen : Array Nat) :
    (let left := es.filter fun e => !seen.contains e.born
     let old := left.filter (·.born < since)
     let new := left.filter (·.born ≥ since)
     ((if old.isEmpty then #[none] else #[]) ++ (old ++ new).map some : Array (Option MapEntry)).toList) = cands es.toList since seen.toList := by
  simp only [cands, Array.toList_append, Array.toList_map, Array.toList_filter, Array.contains_toList]
  congr 1
  have : (Array.filter (fun x => decide (x.born < since)) (Array.filter (fun e => !seen.contains e.born) es)).isEmpty = (List.filter (fun e => decide (e.born < since)) (List.filter (fun e => !seen.contains e.born) es.toList)).isEmpty := by
    rw [← Array.isEmpty_toList, Array.toList_filter, Array.toList_filter]
  rw [this]
  split <;> rfl
theorem all_born {ρ : Inj} {es es' : List MapEntry} (h : ERel ρ es es') (last : Nat) : es.all (fun e => decide (e.born ≥ last)) = es'.all (fun e => decide (e.born ≥ last)) := by
  induction es generalizing es' with
  | nil => rw [h.nil_inv]
  | cons e r ih =>
    obtain ⟨e', r', rfl, h1, h2, h3, h4⟩ := h.cons_inv
    simp only [List.all_cons, h3, ih h4]

section
variable {E : Env} (hE : E.Ok) {ρ : Inj} {st : St} {w : World} (hS : SRel E ρ st w) {tmps : List Value} {a : Act}
include hE hS

theorem nextMap_sound {x : Operand} {ty : TypeId} {K : R → Prop} (hx : EvR E ρ tmps a x) (h : (nextMap E tmps x st).All K) : ∃ v st', K (.val v st') ∧ Val E ρ st w ((Instr.next (a.eval x) false ty).run E.P w) v st' := by
  unfold nextMap at h
  split at h
  case h_2 => exact h.elim
  rename_i r h1
  obtain ⟨_, m0, hm0, he⟩ := ptr_inv hE hS (hx _ h1)
  rw [he]
  split at h
  case h_2 => exact h.elim
  rename_i m since seen last hr
  obtain ⟨m1, mm', seen', q1, q0, q2, q3, q4⟩ := hS.heap.blk _ _ _ hr
  rw [hm0] at q1
  cases q1
  cases mm' with
  | none => exact q4.elim
  | some bb =>
    obtain ⟨m2, q5, rfl⟩ := q4
    split at h
    case h_2 => exact h.elim
    rename_i o es clock hm
    obtain ⟨m3, es', r1, r2, r3⟩ := hS.heap.blk _ _ _ (mapAt_eq hm)
    rw [q5] at r1
    cases r1
    split at h
    · exact h.elim
    rename_i hcond
    have hb := (Array.getElem?_eq_some_iff.1 q2).1
    have hgo : (getObj m0.blk).run E.P w = .ok (.mapIter (some m2.blk) since seen' last) w := by simp [getObj, Sem.run, q2]
    have hgm : (getObj m2.blk).run E.P w = .ok (.map es' clock) w := by simp [getObj, Sem.run, r2]
    have hcond' : (!seen'.isEmpty && !es'.isEmpty && es'.all (fun e => decide (e.born ≥ last))) = false := by
      have e1 : seen'.isEmpty = seen.isEmpty := by rw [← q3]; simp
      have e2 : es'.isEmpty = es.isEmpty := by
        have := r3.1
        cases es with
        | nil => simp at this; simp [Array.isEmpty, ← this]
        | cons e r =>
          simp at this
          have h0 : ¬ (es'.size = 0) := by omega
          simp only [Array.isEmpty, List.isEmpty_cons, h0, decide_false]
      have e3 : es'.all (fun e => decide (e.born ≥ last)) = es.all (fun e => decide (e.born ≥ last)) := by
        rw [all_born r3 last, Array.all_toList]
      rw [e1, e2, e3]
      simpa using hcond
    have harr := cands_arr es' since seen'
    simp only at harr
    generalize hcs : ((if ((es'.filter fun e => !seen'.contains e.born).filter fun x => decide (x.born < since)).isEmpty = true then #[none] else #[]) ++
      Array.map some (((es'.filter fun e => !seen'.contains e.born).filter fun x => decide (x.born < since)) ++ ((es'.filter fun e => !seen'.contains e.born).filter fun x => decide (x.born ≥ since))) : Array (Option MapEntry)) = cs' at harr
    rw [q3] at harr
    obtain ⟨hlen, hcr⟩ := cands_rel r3 since seen
    rw [← harr] at hlen hcr
    have hpos := cands_pos es since seen
    -- which one comes
    have pick : ∃ k c c' w0, k < (cands es since seen).length ∧ (cands es since seen)[k]? = some c ∧ cs'[k]? = some c' ∧ CRel ρ c c' ∧ (w0 = w ∨ w0 = w.drew) ∧ (choose (.mapNext cs'.size)).run E.P w = .ok k w0 := by
      have hsz : cs'.size = (cands es since seen).length := by rw [hlen]; simp
      by_cases h1 : cs'.size ≤ 1
      · have hk : 0 < (cands es since seen).length := hpos
        have hk' : 0 < cs'.size := by omega
        refine ⟨0, _, _, w, hk, List.getElem?_eq_getElem hk, Array.getElem?_eq_getElem hk', ?_, .inl rfl, by rw [run_choose, if_pos (by simp [Question.forced, h1])]⟩
        exact hcr 0 _ _ (List.getElem?_eq_getElem hk) (by rw [Array.getElem?_toList]; exact Array.getElem?_eq_getElem hk')
      · have hk' : w.tape w.drawn (.mapNext cs'.size) % cs'.size < cs'.size := Nat.mod_lt _ (by omega)
        have hk : w.tape w.drawn (.mapNext cs'.size) % cs'.size < (cands es since seen).length := by omega
        refine ⟨_, _, _, w.drew, hk, List.getElem?_eq_getElem hk, Array.getElem?_eq_getElem hk', ?_, .inr rfl, by rw [run_choose, if_neg (by simp [Question.forced]; omega)]; rfl⟩
        exact hcr _ _ _ (List.getElem?_eq_getElem hk) (by rw [Array.getElem?_toList]; exact Array.getElem?_eq_getElem hk')
    obtain ⟨k, c, c', w0, hk, hc, hc', hcc, hw0, hch⟩ := pick
    have hK : K (comes c r m since seen clock st) := by
      split at h
      · rename_i c1 heq
        rw [heq] at hc hk
        have : k = 0 := by simpa using hk
        subst this
        simp at hc
        subst hc
        exact h
      · have := h k hk
        simp only at this
        rw [get_eq, hc] at this
        exact this
    have hS0 : SRel E ρ st w0 := by rcases hw0 with rfl | rfl; exact hS; exact hS.drew
    have hX0 : ∀ {ρ' : Inj} {st' : St} {w' : World}, Ext ρ ρ' st st' w0 w' → Ext ρ ρ' st st' w w' := by
      intro ρ' st' w' hx
      rcases hw0 with rfl | rfl
      · exact hx
      · exact hx.ofDrew
    have hh0 : w0.heap = w.heap := by rcases hw0 with rfl | rfl <;> rfl
    have hrun : (Instr.next (.pointer (some ⟨m0.blk, m0.off + 0, none⟩)) false ty).run E.P w = ((choose (.mapNext cs'.size)).run E.P w).andThen fun k w1 => (match cs'[k]? with
        | some (some e) => do
          setObj m0.blk (.mapIter (some m2.blk) since (seen'.push e.born) clock)
          pure (.tuple #[.bool true, e.key, e.val])
        | some none => pure (.tuple #[.bool false])
        | none => stuck "Next: no such candidate" : Sem Value).run E.P w1 := by
      simp only [q0]
      simp only [Instr.next, Sem.run_bind, hgo, Result.andThen_ok, hgm, hcond', Bool.false_eq_true, if_false]
      rw [hcs]
      rfl
    rw [show m0.off + 0 = m0.off + 0 from rfl, hrun, hch, Result.andThen_ok, hc']
    cases c with
    | none =>
      cases c' with
      | some e => exact hcc.elim
      | none =>
        refine ⟨_, _, hK, .tuple #[.bool false], w0, ρ, rfl, .flat rfl, hS0.heap, hX0 (Ext.refl ρ st w0)⟩
    | some e =>
      cases c' with
      | none => exact hcc.elim
      | some e' =>
        obtain ⟨k1, k2, k3⟩ := hcc
        have q2' : w0.heap[m0.blk]? = some (.mapIter (some m2.blk) since seen' last) := by rw [hh0]; exact q2
        obtain ⟨g1, g2⟩ := set_rel (w' := w0.setBlk m0.blk (.mapIter (some m2.blk) since (seen'.push e'.born) clock)) (b' := .mapIter (some m) since (seen ++ [e.born]) clock) hS0 hr hm0
          ⟨m0, some m2.blk, seen'.push e'.born, hm0, q0, setBlk_same (by rw [hh0]; exact hb), by rw [← q3, k3]; simp, m2, q5, rfl⟩ (fun r hr => setBlk_other hr) (by simp) rfl rfl rfl
        refine ⟨_, _, hK, .tuple #[.bool true, e'.key, e'.val], _, ρ, ?_, VRel.mk_tuple ((((LRel.nil ρ).cons k2).cons k1).cons (.flat rfl)), g1, hX0 g2⟩
        simp only [Sem.run_bind, setObj, Sem.run, q2', Result.andThen_ok]
        rfl
end
end Go.Am
