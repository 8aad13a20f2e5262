/- skeinlaw12.CtNobody: for every zone, state and connection the calls of a nil table answer as the document says, and nothing that was there is written. No condition. (The machine of the Am texts runs the call; its answer holds of the model's.) -/
import Derived.Test.YtlffhifgddfibaaAmE
import Derived.Test.YtlffhifgddfibaaRows
import Derived.ProofKit
import Derived.OpenShut
import Derived.ShutString
import Derived.ChangeOld
import Derived.Below
set_option linter.unusedVariables false
namespace Go.Proofs.Ytlffhifgddfibaa.CtNobody
open Go.ChangeShapes Go.WideShapes Go.ChangeAt Go.RowKit
open Go.Am (tab isTrue LRel VRel flat)

theorem own : ownKnob Try.prog.godebug = none := by kernel_rfl
theorem laidOut : laidOutB Try.prog = true := by kernel_rfl

/-- The machine's answer, whatever the numbers, strings and truth values are. -/
theorem answers (z : Int) (f g : Nat → Value) : (Go.Am.call Am.E 100000 60 5 [.int .i64 z, .agg ⟨tab f 49 0⟩, .agg ⟨tab g 13 0⟩] ⟨[], 0, []⟩).all (fun r => isTrue r.1) = true := by kernel_rfl

theorem walk (z : Int) (f g : Nat → Value) (w : World) (hf : flat (.agg ⟨tab f 49 0⟩) = true) (hg : flat (.agg ⟨tab g 13 0⟩) = true) :
    Calls Try.prog 5 #[.int .i64 z, .agg ⟨tab f 49 0⟩, .agg ⟨tab g 13 0⟩] w fun e w' => e = .returned (.bool true) ∧ Below w.heap.size w w' :=
  Go.Am.calls_true (args' := [.int .i64 z, .agg ⟨tab f 49 0⟩, .agg ⟨tab g 13 0⟩]) Am.E_ok Am.E_prim (answers z f g) (Go.Am.noInj_rel rfl w) (fun i o b h => by cases h)
    ((((LRel.nil _).cons (.flat hg)).cons (.flat hf)).cons (.flat rfl)) (fn := Try.f5) rfl rfl

set_option maxRecDepth 100000 in
theorem lifted (os : Os) (started : os.Started) (H : Type) (enc : TypeId × Value → H) :
    ReturnsInHanded {} Try.checked os 5 .any (Rows.ctNobodySpec.pre6 enc Try.prog Try.f5 Rows.ctNobodyRow.domain false) (Rows.ctNobodySpec.post enc Try.prog Try.f5 false true false false) := by
  refine returnsInHanded_of_change (C := Try.checked) own started (by kernel_rfl) Try.func5
    (ChangeSpec.witness6 (enc := enc) (C := Try.checked) false ⟨#[], #[.int .i64 0, ((Try.prog.info? 46).bind (·.zero)).getD undef, ((Try.prog.info? 51).bind (·.zero)).getD undef], []⟩ 8 (by kernel_rfl) (by kernel_rfl) (by kernel_rfl) (by kernel_rfl)) ?_
  intro W base args ds gs before hval0 hW hcnd _
  have hval : ∀ (j : Nat) t v, Try.f5.params[j]? = some t → args[j]? = some v → Value.okWide Try.prog W .any base t v := hval0
  have hW' := hW
  obtain ⟨p, q, hA0, hV, rfl, hfz, hnd⟩ := hW
  have hA : DataW.TrodAll enc Try.prog W 0 (fun _ => true) true Try.f5.params.toList args.toList ds p := hA0
  rw [Try.params5] at hA hval
  obtain ⟨v0, vs0, d0, ds0, p0, q0, hargs, rfl, rfl, h0, r0⟩ := trodAll_cons hA
  obtain ⟨v1, vs1, d1, ds1, p1, q1, rfl, rfl, rfl, h1, r1⟩ := trodAll_cons r0
  obtain ⟨v2, vs2, d2, ds2, p2, q2, rfl, rfl, rfl, h2, r2⟩ := trodAll_cons r1
  obtain ⟨rfl, rfl, rfl⟩ := trodAll_nil r2
  obtain rfl : args = #[v0, v1, v2] := by cases args; simp_all
  obtain ⟨rfl, rfl⟩ := trodVars_none hV
  have lt0 : ∀ x ∈ p0, x.block < W.heap.size := by obtain ⟨m, hm⟩ := h0; exact DataW.trod_lt m _ _ _ hm
  have lt1 : ∀ x ∈ p1, x.block < W.heap.size := by obtain ⟨m, hm⟩ := h1; exact DataW.trod_lt m _ _ _ hm
  have lt2 : ∀ x ∈ p2, x.block < W.heap.size := by obtain ⟨m, hm⟩ := h2; exact DataW.trod_lt m _ _ _ hm
  have k0 := h0
  obtain ⟨a0, rfl, _, _, w0⟩ := open_int Try.underlying3 (hval 0 3 v0 rfl rfl) h0
  obtain ⟨f, rfl, hf⟩ := Go.Am.okWide_flat (t := 46) (n := 49) (by kernel_rfl) (by kernel_rfl) (by kernel_rfl) (hval 1 46 v1 rfl rfl)
  obtain ⟨g, rfl, hg⟩ := Go.Am.okWide_flat (t := 51) (n := 13) (by kernel_rfl) (by kernel_rfl) (by kernel_rfl) (hval 2 51 v2 rfl rfl)
  clear hA0 hval0
  refine (walk a0 f g W hf hg).mono fun e W' ⟨he, bel⟩ => ?_
  subst he
  exact ⟨_, rfl, _, _, _, [], _, [], hW', trodAll_mk1 (shut_bool Try.underlying4 _), (trodAll_cons_mk (Below.trod laidOut (by kernel_rfl) (of_decide_eq_true (by kernel_rfl)) k0 bel lt0)
    (trodAll_cons_mk (Below.trod laidOut (by kernel_rfl) (of_decide_eq_true (by kernel_rfl)) h1 bel lt1)
    (trodAll_cons_mk (Below.trod laidOut (by kernel_rfl) (of_decide_eq_true (by kernel_rfl)) h2 bel lt2) trodAll_mk0))), rfl, bel.frame _, fun h => by cases h⟩

theorem over : Rows.ctNobodyRow.holds Try.pinned (OpenSpec.ofChange Rows.ctNobodySpec) :=
  OpenClaim.holds_of_wide 5 Try.f5 rfl rfl rfl rfl rfl rfl rfl ⟨rfl, rfl, rfl, rfl, rfl⟩ rfl rfl rfl rfl rfl (by kernel_rfl) Try.func5 (by kernel_rfl)
    (of_decide_eq_true (by kernel_rfl)) (by unfold Func.isWrapper; first | (rw [if_pos (by decide +kernel)]; kernel_rfl) | (rw [if_neg (by decide +kernel)]; exact ⟨rfl, rfl⟩))
    (fun os started H enc _ => lifted os started H enc)

theorem proved : Rows.CtNobodySaid := over
end Go.Proofs.Ytlffhifgddfibaa.CtNobody
