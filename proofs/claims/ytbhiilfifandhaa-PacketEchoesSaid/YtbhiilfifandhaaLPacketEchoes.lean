/- skeinlaw05.PacketEchoes: for every packet the reply is the document's, and a reply has none; nothing that was there is written. No condition. (The machine of the Am texts runs the call on unknown cells, once for each way that the five tests may go.) -/
import Derived.Test.YtbhiilfifandhaaAmE
import Derived.Test.YtbhiilfifandhaaRows
import Derived.ProofKit
import Derived.OpenShut
import Derived.ShutString
import Derived.ChangeOld
import Derived.Below
set_option linter.unusedVariables false
namespace Go.Proofs.Ytbhiilfifandhaa.PacketEchoes
open Go.ChangeShapes Go.WideShapes Go.ChangeAt Go.RowKit
open Go.Am (tab isTrue LRel VRel flat given Kd Fact hasKd tokInj)

theorem own : ownKnob Try.prog.godebug = none := by kernel_rfl
theorem laidOut : laidOutB Try.prog = true := by kernel_rfl

/-! ### lives -/
theorem lives_answers : (Go.Am.call Am.E 100000 60 7 [] ⟨[], 0, []⟩).all (fun r => isTrue r.1) = true := by kernel_rfl
theorem lives_calls (w : World) : Calls Try.prog 7 #[] w fun e w' => e = .returned (.bool true) ∧ Below w.heap.size w w' :=
  Go.Am.calls_true (args' := []) Am.E_ok Am.E_prim lives_answers (Go.Am.noInj_rel rfl (fun _ => rfl) w) (fun i o b h => by cases h) (LRel.nil _) (fn := Try.f7) rfl rfl

/-! ### The law's call -/
/-- The kinds of a packet's cells, and of one value more. -/
def kinds : List Kd := [.int .u64, .int .u64, .bool, .int .i64, .int .i64, .bool, .int .i64, .int .u64, .int .u32, .int .u64, .int .u32, .bool, .int .i64, .int .i64, .int .i64, .int .i64, .int .i64, .int .u32, .int .u32, .string,
  .int .i64, .int .i64, .int .i64, .int .u32, .int .i64, .int .i64, .bool, .int .u32, .int .u32, .int .i64, .int .i64, .int .i64, .string, .string, .string, .string]
def kinds' : List Kd := kinds ++ [.int .i64]
def facts (b1 b2 b3 b4 : Bool) : List Fact := [(.and, .chan (some 14), .int .i64 16383, .chan (some 36)), (.eql, .chan (some 36), .int .i64 0, .bool b1), (.neq, .chan (some 20), .int .i64 1, .bool b2), (.neq, .chan (some 21), .int .i64 8, .bool b3), (.neq, .chan (some 22), .int .i64 0, .bool b4)]
noncomputable def E (b1 b2 b3 b4 : Bool) : Go.Am.Env := { Am.E with prim := Go.Am.primTrue 7, orc := Go.Am.orcOf Try.prog (facts b1 b2 b3 b4) kinds' }
def K : Value × Go.Am.St → Bool := fun r => isTrue r.1
theorem answers (b0 b1 b2 b3 b4 : Bool) : (Go.Am.call (E b1 b2 b3 b4) 1000 10 3 [.agg ⟨tab (given [(11, .bool b0)]) 36 0⟩] ⟨[], 37, []⟩).all K = true := by
  cases b0 <;> cases b1 <;> cases b2 <;> cases b3 <;> cases b4 <;> kernel_rfl
theorem E_ok (b1 b2 b3 b4 : Bool) : (E b1 b2 b3 b4).Ok := Am.E_ok.alike rfl rfl rfl
theorem E_prim (b1 b2 b3 b4 : Bool) : Go.Am.PrimOk (E b1 b2 b3 b4) := Go.Am.primOk_true (L := 7) rfl lives_calls

theorem walk (f : Nat → Value) (hk : ∀ i k, Go.Am.get kinds i = some k → i < 36 ∧ hasKd k (f i) = true) (w : World) :
    Calls Try.prog 3 #[.agg ⟨tab f 36 0⟩] w fun e w' => e = .returned (.bool true) ∧ Below w.heap.size w w' := by
  obtain ⟨b0, h11⟩ := Go.Am.kd_bool (hk 11 .bool rfl).2
  obtain ⟨x14, h14⟩ := Go.Am.kd_int (hk 14 (.int .i64) rfl).2
  obtain ⟨x20, h20⟩ := Go.Am.kd_int (hk 20 (.int .i64) rfl).2
  obtain ⟨x21, h21⟩ := Go.Am.kd_int (hk 21 (.int .i64) rfl).2
  obtain ⟨x22, h22⟩ := Go.Am.kd_int (hk 22 (.int .i64) rfl).2
  generalize hA : IntKind.i64.wrap (BitVec.ofInt 64 x14 &&& BitVec.ofInt 64 16383).toNat = A
  let g : Nat → Value := fun i => if i = 36 then .int .i64 A else f i
  have hkg : ∀ i k, Go.Am.get kinds' i = some k → i < 37 ∧ hasKd k (g i) = true := by
    intro i k h
    rw [Go.Am.get_eq] at h
    unfold kinds' at h
    by_cases hi : i < 36
    · rw [List.getElem?_append_left (by simpa [kinds] using hi), ← Go.Am.get_eq] at h
      refine ⟨by omega, ?_⟩
      show hasKd k (if i = 36 then .int .i64 A else f i) = true
      rw [if_neg (by omega)]
      exact (hk i k h).2
    · rw [List.getElem?_append_right (by simpa [kinds] using hi)] at h
      have hlt := (List.getElem?_eq_some_iff.1 h).1
      have h36 : i = 36 := by simp [kinds] at hlt; omega
      subst h36
      simp [kinds] at h
      subst h
      exact ⟨by omega, rfl⟩
  have hone : ∀ i, i < 37 → (g i).oneCell' = true := by
    intro i hi
    have : i < kinds'.length := by simpa [kinds', kinds] using hi
    have h1 : Go.Am.get kinds' i = some kinds'[i] := by rw [Go.Am.get_eq]; exact List.getElem?_eq_getElem this
    exact Go.Am.kd_one (hkg i _ h1).2
  have hg : ∀ i, i ≠ 36 → g i = f i := fun i hi => if_neg hi
  have hfacts : Go.Am.FactsOk Try.prog g 37 (facts (A == 0) (x20 != 1) (x21 != 8) (x22 != 0)) := by
    intro op a b r hm
    simp only [facts, List.mem_cons, Prod.mk.injEq, List.not_mem_nil, or_false] at hm
    rcases hm with ⟨rfl, rfl, rfl, rfl⟩ | ⟨rfl, rfl, rfl, rfl⟩ | ⟨rfl, rfl, rfl, rfl⟩ | ⟨rfl, rfl, rfl, rfl⟩ | ⟨rfl, rfl, rfl, rfl⟩
    · refine ⟨rfl, rfl, rfl, fun t x y w => ?_⟩
      simp only [Go.Am.tv, hg 14 (by omega), h14]
      rw [Sem.run_bind, Go.Am.guard_run w (by simp) (by simp)]
      rw [Result.andThen_ok, show g 36 = .int .i64 A from rfl, ← hA]
      rfl
    · refine ⟨rfl, rfl, rfl, fun t x y w => ?_⟩
      simp only [Go.Am.tv]
      rw [show g 36 = .int .i64 A from rfl, Sem.run_bind, Go.Am.guard_run w (by simp) (by simp)]
      simp [Go.binOp, Op.intCmp]
    · refine ⟨rfl, rfl, rfl, fun t x y w => ?_⟩
      simp only [Go.Am.tv, hg 20 (by omega), h20]
      rw [Sem.run_bind, Go.Am.guard_run w (by simp) (by simp)]
      simp [Go.binOp, Op.intCmp]
    · refine ⟨rfl, rfl, rfl, fun t x y w => ?_⟩
      simp only [Go.Am.tv, hg 21 (by omega), h21]
      rw [Sem.run_bind, Go.Am.guard_run w (by simp) (by simp)]
      simp [Go.binOp, Op.intCmp]
    · refine ⟨rfl, rfl, rfl, fun t x y w => ?_⟩
      simp only [Go.Am.tv, hg 22 (by omega), h22]
      rw [Sem.run_bind, Go.Am.guard_run w (by simp) (by simp)]
      simp [Go.binOp, Op.intCmp]
  have hargs : tab f 36 0 = tab g 36 0 := Go.Am.tab_congr 36 0 fun j h1 h2 => (hg j (by omega)).symm
  rw [hargs]
  refine Go.Am.calls_true (E := E (A == 0) (x20 != 1) (x21 != 8) (x22 != 0)) (N := 1000) (n := 10) (n0 := 37) (args := [.agg ⟨tab (given [(11, .bool b0)]) 36 0⟩]) (args' := [.agg ⟨tab g 36 0⟩]) (E_ok _ _ _ _) (E_prim _ _ _ _) (answers b0 _ _ _ _)
    (Go.Am.tokInj_rel rfl (Go.Am.orcOf_ok (T := facts (A == 0) (x20 != 1) (x21 != 8) (x22 != 0)) (ks := kinds') rfl hone hkg hfacts) w) (fun i o b h => by cases h) ?_ (fn := Try.f3) rfl rfl
  refine (LRel.nil _).cons (VRel.mk_agg (Go.Am.given_rel (by omega) hone [(11, .bool b0)] fun i v h => ?_))
  simp only [List.mem_singleton, Prod.mk.injEq] at h
  obtain ⟨rfl, rfl⟩ := h
  exact ⟨rfl, by rw [hg 11 (by omega), h11]⟩

set_option maxRecDepth 100000 in
theorem lifted (os : Os) (started : os.Started) (H : Type) (enc : TypeId × Value → H) :
    ReturnsInHanded {} Try.checked os 3 .any (Rows.packetEchoesSpec.pre6 enc Try.prog Try.f3 Rows.packetEchoesRow.domain false) (Rows.packetEchoesSpec.post enc Try.prog Try.f3 false true false false) := by
  refine returnsInHanded_of_change (C := Try.checked) own started (by kernel_rfl) Try.func3
    (ChangeSpec.witness6 (enc := enc) (C := Try.checked) false ⟨#[], #[((Try.prog.info? 33).bind (·.zero)).getD undef], []⟩ 8 (by kernel_rfl) (by kernel_rfl) (by kernel_rfl) (by kernel_rfl)) ?_
  intro W base args ds gs before hval0 hW hcnd _
  have hval : ∀ (j : Nat) t v, Try.f3.params[j]? = some t → args[j]? = some v → Value.okWide Try.prog W .any base t v := hval0
  have hW' := hW
  obtain ⟨p, q, hA0, hV, rfl, hfz, hnd⟩ := hW
  have hA : DataW.TrodAll enc Try.prog W 0 (fun _ => true) true Try.f3.params.toList args.toList ds p := hA0
  rw [Try.params3] at hA hval
  obtain ⟨v0, vs0, d0, ds0, p0, q0, hargs, rfl, rfl, h0, r0⟩ := trodAll_cons hA
  obtain ⟨rfl, rfl, rfl⟩ := trodAll_nil r0
  obtain rfl : args = #[v0] := by cases args; simp_all
  obtain ⟨rfl, rfl⟩ := trodVars_none hV
  have lt0 : ∀ x ∈ p0, x.block < W.heap.size := by obtain ⟨m, hm⟩ := h0; exact DataW.trod_lt m _ _ _ hm
  obtain ⟨f, rfl, hk⟩ := Go.Am.okWide_kinds (t := 33) (n := 36) (ks := kinds) (by kernel_rfl) (by kernel_rfl) (by kernel_rfl) rfl (hval 0 33 v0 rfl rfl)
  clear hA0 hval0
  refine (walk f hk W).mono fun e W' ⟨he, bel⟩ => ?_
  subst he
  exact ⟨_, rfl, _, _, _, [], _, [], hW', trodAll_mk1 (shut_bool Try.underlying4 _), (trodAll_cons_mk (Below.trod laidOut (by kernel_rfl) (of_decide_eq_true (by kernel_rfl)) h0 bel lt0) trodAll_mk0), rfl, bel.frame _, fun h => by cases h⟩

theorem over : Rows.packetEchoesRow.holds Try.pinned (OpenSpec.ofChange Rows.packetEchoesSpec) :=
  OpenClaim.holds_of_wide 3 Try.f3 rfl rfl rfl rfl rfl rfl rfl ⟨rfl, rfl, rfl, rfl, rfl⟩ rfl rfl rfl rfl rfl (by kernel_rfl) Try.func3 (by kernel_rfl)
    (of_decide_eq_true (by kernel_rfl)) (by unfold Func.isWrapper; first | (rw [if_pos (by decide +kernel)]; kernel_rfl) | (rw [if_neg (by decide +kernel)]; exact ⟨rfl, rfl⟩))
    (fun os started H enc _ => lifted os started H enc)

theorem proved : Rows.PacketEchoesSaid := over
end Go.Proofs.Ytbhiilfifandhaa.PacketEchoes
