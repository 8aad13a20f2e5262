/- From the machine's answer to a law's call: the tables are the program's; a call that finds nothing of its own at the begin leaves what was there; arguments that lead nowhere. -/
import Derived.Test.YtbhiilfifandhaaAm21
import Derived.Below
import GoSem.ClaimWide
set_option linter.unusedVariables false
set_option linter.unusedSimpArgs false
set_option linter.unusedSectionVars false
namespace Go.Am
open Go.RowKit (Below)

def zeroOk (ti : TI) : Bool := match ti.zero with
  | some z => flat z && Nat.beq z.cells.toList.length ti.size
  | none => true
def nameOk (fn : Func) : Bool := !(fn.name == "runtime.NumGoroutine")
theorem Env.ok_of {E : Env} {n : Nat} (ht : (List.range n).map (tiOf E.P) = E.types.map some) (hf : E.P.funcs.toList = E.funcs) (hz : E.types.all zeroOk = true) (hn : E.funcs.all nameOk = true) (hm : E.P.follows .mixedOrders = true) : E.Ok where
  types := fun t i h => by
    rw [get_eq] at h
    have h1 : (E.types.map some)[t]? = some (some i) := by rw [List.getElem?_map, h]; rfl
    rw [← ht, List.getElem?_map] at h1
    obtain ⟨k, h2, h3⟩ := Option.map_eq_some_iff.1 h1
    rw [List.getElem?_range] at h2
    · cases h2; exact h3
    · rcases Nat.lt_or_ge t n with h | h
      · exact h
      · rw [List.getElem?_eq_none (by simpa using h)] at h2; cases h2
  zeros := fun t i z h h2 => by
    rw [get_eq] at h
    have := List.all_eq_true.1 hz i (List.mem_of_getElem? h)
    simp only [zeroOk, h2, Bool.and_eq_true] at this
    exact ⟨this.1, by simpa using this.2⟩
  funcs := fun f fn h => by
    rw [get_eq] at h
    have := List.all_eq_true.1 hn fn (List.mem_of_getElem? h)
    refine ⟨?_, by simpa [nameOk] using this⟩
    rw [← hf] at h
    simpa using h
  mixed := hm
theorem primOk_none {E : Env} (h : ∀ f args st, E.prim f args st = none) : PrimOk E := fun f args st r hr => by rw [h] at hr; cases hr

def isTrue : Value → Bool
  | .bool true => true
  | _ => false
theorem isTrue_eq {v : Value} (h : isTrue v = true) : v = .bool true := by
  unfold isTrue at h
  split at h
  · rfl
  · cases h
/-- A call at a begin where nothing is the run's own: what was there stays. -/
theorem calls_below {E : Env} (hE : E.Ok) (hP : PrimOk E) {N n f : Nat} {h0 : Heap} {n0 : Nat} {args args' : List Value} {fn : Func} {c : Code} {ρ : Inj} {w : World} {K : Value × St → Prop} (h : (call E N n f args ⟨h0, n0, []⟩).All K)
    (hS : SRel E ρ ⟨h0, n0, []⟩ w) (hro : ∀ i o b, find h0 i = some (o, b) → o = false) (hA : LRel ρ args args') (hf : get E.funcs f = some fn) (hc : fn.body = some c) :
    Calls E.P f ⟨args'⟩ w fun e w' => ∃ v st v' ρ', K (v, st) ∧ e = .returned v' ∧ VRel ρ' v v' ∧ HRel E ρ' (find st.heap) w' ∧ Below w.heap.size w w' := by
  refine Calls.mono (callOk hE hP N n f args ⟨h0, n0, []⟩ K ρ w args' fn c h hS hA hf hc) fun e w' hp => ?_
  obtain ⟨v, st, v', ρ', hk, he, hv, hh, hx⟩ := hp
  refine ⟨v, st, v', ρ', hk, he, hv, hh, hx.os, hx.tape, hx.output, hx.size, fun k hk' => hx.frame k hk' fun j mj hj hm => ?_⟩
  obtain ⟨b, hb⟩ := hx.own j hj (by simp) (by rw [hm]; rfl)
  exact absurd (hro j true b hb) (by simp)
theorem calls_true {E : Env} (hE : E.Ok) (hP : PrimOk E) {N n f : Nat} {h0 : Heap} {n0 : Nat} {args args' : List Value} {fn : Func} {c : Code} {ρ : Inj} {w : World} (h : (call E N n f args ⟨h0, n0, []⟩).all (fun r => isTrue r.1) = true)
    (hS : SRel E ρ ⟨h0, n0, []⟩ w) (hro : ∀ i o b, find h0 i = some (o, b) → o = false) (hA : LRel ρ args args') (hf : get E.funcs f = some fn) (hc : fn.body = some c) :
    Calls E.P f ⟨args'⟩ w fun e w' => e = .returned (.bool true) ∧ Below w.heap.size w w' := by
  refine Calls.mono (calls_below hE hP ((T.all_iff _ _).1 h) hS hro hA hf hc) fun e w' hp => ?_
  obtain ⟨v, st, v', ρ', hk, he, hv, _, hb⟩ := hp
  obtain rfl := isTrue_eq hk
  exact ⟨by rw [he, hv.same rfl], hb⟩
/-- Nothing is known at the begin. -/
def noInj : Inj := fun _ => none
theorem noInj_rel {E : Env} (hg : E.ng = 0) (ho : ∀ op, E.orc op = none) (w : World) : SRel E noInj ⟨[], 0, []⟩ w :=
  ⟨⟨fun i o b h => (by cases h), fun i j b e mi mj h => (by cases h)⟩, fun _ _ => rfl, fun g hg' => (by rw [hg] at hg'; cases hg'), .none _ ho⟩

/-! ### Arguments that lead nowhere -/
def plainCell (P : Program) (u : TypeId) : Bool := match P.underlying u with
  | some .bool | some (.int _) | some .string => true
  | _ => false
theorem cell_flat {P : Program} {w : World} {r : Reach} {base : Nat} {u : TypeId} {v : Value} (hp : plainCell P u = true) (h : Cell.okWide P w r base u v) : flat v = true := by
  unfold plainCell at hp
  unfold Cell.okWide Cell.ok at h
  split at hp
  · rename_i hd; rw [hd] at h; cases v <;> first | rfl | exact h.elim
  · rename_i hd; rw [hd] at h; cases v <;> first | rfl | exact h.elim
  · rename_i hd; rw [hd] at h; cases v <;> first | rfl | exact h.elim
  · cases hp
/-- A list of so many values. -/
def tab (f : Nat → Value) : Nat → Nat → List Value
  | 0, _ => []
  | n + 1, i => f i :: tab f n (i + 1)
theorem tab_get (f : Nat → Value) (n : Nat) : ∀ i j, (tab f n i)[j]? = if j < n then some (f (i + j)) else none := by
  induction n with
  | zero => intro i j; simp [tab]
  | succ n ih =>
    intro i j
    cases j with
    | zero => simp [tab]
    | succ j =>
      simp only [tab, List.getElem?_cons_succ, ih]
      by_cases h : j < n
      · rw [if_pos h, if_pos (by omega), show i + 1 + j = i + (j + 1) by omega]
      · rw [if_neg h, if_neg (by omega)]
theorem eq_tab (cs : List Value) (n : Nat) (h : cs.length = n) : ∃ f, cs = tab f n 0 := by
  refine ⟨fun i => cs.getD i undef, List.ext_getElem? fun j => ?_⟩
  rw [tab_get]
  by_cases hj : j < n
  · rw [if_pos hj, List.getElem?_eq_getElem (by omega)]
    simp [show j < cs.length by omega]
  · rw [if_neg hj, List.getElem?_eq_none (by omega)]
theorem okWide_flat {P : Program} {w : World} {r : Reach} {base : Nat} {t : TypeId} {v : Value} {n : Nat} (ha : (match P.underlying t with | some (.struct _) | some (.array _ _) => true | _ => false) = true) (hp : (match P.cellTypes P.depth t with | some ts => ts.all (plainCell P) | none => false) = true)
    (hn : P.cellsOf t = n) (h : Value.okWide P w r base t v) : ∃ f, v = .agg ⟨tab f n 0⟩ ∧ flat (.agg ⟨tab f n 0⟩) = true := by
  unfold Value.okWide at h
  have h' : ∃ cs, v = .agg cs ∧ cs.size = P.cellsOf t ∧ Row.okWide P w r base t cs := by
    split at ha
    · rename_i hd; rw [hd] at h; exact h
    · rename_i hd; rw [hd] at h; exact h
    · cases ha
  obtain ⟨⟨cs⟩, rfl, hsz, ts', hct, _, hall⟩ := h'
  rw [hct] at hp
  obtain ⟨f, rfl⟩ := eq_tab cs n (by rw [← hn, ← hsz]; rfl)
  refine ⟨f, rfl, ?_⟩
  show flatL _ = true
  rw [flatL_iff]
  intro v hv
  obtain ⟨i, hi, rfl⟩ := List.getElem_of_mem hv
  obtain ⟨u, hu, hok⟩ := hall i _ (by rw [List.getElem?_toArray]; exact List.getElem?_eq_getElem hi)
  exact cell_flat (List.all_eq_true.1 hp u (List.mem_of_getElem? hu)) hok
end Go.Am
