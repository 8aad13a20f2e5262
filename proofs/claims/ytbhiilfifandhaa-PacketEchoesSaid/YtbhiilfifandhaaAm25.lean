/- For laws: a call of a closed function taken as known; the kinds of a struct's cells. -/
import Derived.Test.YtbhiilfifandhaaAm24
set_option linter.unusedVariables false
set_option linter.unusedSimpArgs false
set_option linter.unusedSectionVars false
namespace Go.Am
open Go.RowKit (Below)

/-- A function without arguments that comes to true is known. -/
def primTrue (L : FuncId) : FuncId → List Value → St → Option (Value × St) := fun f args st => match args with
  | [] => if Nat.beq f L then some (.bool true, st) else none
  | _ => none
theorem below_post {E : Env} {ρ : Inj} {st : St} {w w' : World} (hS : SRel E ρ st w) (hb : Below w.heap.size w w') : HRel E ρ (find st.heap) w' ∧ Ext ρ ρ st st w w' := by
  refine ⟨⟨fun i o b h => ?_, hS.heap.inj⟩, ?_⟩
  · have hB := hS.heap.blk i o b h
    refine hB.keep (Inj.le.refl ρ) fun m hm => ?_
    obtain ⟨m', h1, h2⟩ := hB.img
    rw [hm] at h1
    cases h1
    exact hb.block _ h2
  · exact { Ext.refl ρ st w with frame := fun r hr _ => hb.block r hr, size := hb.size, os := hb.os, tape := hb.tape, output := hb.output }
theorem primOk_true {E : Env} {L : FuncId} (hp : E.prim = primTrue L) (h : ∀ w, Calls E.P L #[] w fun e w' => e = .returned (.bool true) ∧ Below w.heap.size w w') : PrimOk E := by
  intro f args st r hr ρ w args' fn c hS hA hf hc
  rw [hp] at hr
  unfold primTrue at hr
  split at hr
  · split at hr
    · rename_i hfl
      cases hr
      have hfl' : f = L := by simpa using hfl
      subst hfl'
      have := hA.nil_inv
      subst this
      refine Calls.mono (h w) fun e w' hp => ?_
      obtain ⟨he, hb⟩ := hp
      obtain ⟨h1, h2⟩ := below_post hS hb
      exact ⟨_, _, .bool true, ρ, rfl, he, .flat rfl, h1, h2⟩
    · cases hr
  · cases hr
theorem Env.Ok.alike {E E' : Env} (h : E.Ok) (h1 : E'.P = E.P) (h2 : E'.types = E.types) (h3 : E'.funcs = E.funcs) : E'.Ok := by
  cases E; cases E'
  simp only at h1 h2 h3
  subst h1 h2 h3
  exact ⟨h.types, h.zeros, h.funcs, h.mixed⟩

/-! ### Cells of known kinds -/
def kdT (P : Program) (u : TypeId) : Option Kd := match P.underlying u with
  | some .bool => some .bool
  | some (.int k) => some (.int k)
  | some .string => some .string
  | _ => none
theorem cell_kind {P : Program} {w : World} {r : Reach} {base : Nat} {u : TypeId} {k : Kd} {v : Value} (hp : kdT P u = some k) (h : Cell.okWide P w r base u v) : hasKd k v = true := by
  unfold kdT at hp
  unfold Cell.okWide Cell.ok at h
  split at hp
  · rename_i hd; rw [hd] at h; cases hp; cases v <;> first | rfl | exact h.elim
  · rename_i k0 hd
    rw [hd] at h; cases hp
    cases v <;> first | exact h.elim | skip
    rename_i k' n
    have : k' = k0 := h.1
    subst this
    cases k' <;> rfl
  · rename_i hd; rw [hd] at h; cases hp; cases v <;> first | rfl | exact h.elim
  · cases hp
theorem okWide_kinds {P : Program} {w : World} {r : Reach} {base : Nat} {t : TypeId} {v : Value} {n : Nat} {ks : List Kd} (ha : (match P.underlying t with | some (.struct _) | some (.array _ _) => true | _ => false) = true)
    (hp : (P.cellTypes P.depth t).map (fun ts => ts.map (kdT P)) = some (ks.map some)) (hn : P.cellsOf t = n) (hn2 : ks.length = n) (h : Value.okWide P w r base t v) : ∃ f, v = .agg ⟨tab f n 0⟩ ∧ ∀ i k, get ks i = some k → i < n ∧ hasKd k (f i) = true := by
  unfold Value.okWide at h
  have h' : ∃ cs, v = .agg cs ∧ cs.size = P.cellsOf t ∧ Row.okWide P w r base t cs := by
    split at ha
    · rename_i hd; rw [hd] at h; exact h
    · rename_i hd; rw [hd] at h; exact h
    · cases ha
  obtain ⟨⟨cs⟩, rfl, hsz, ts', hct, _, hall⟩ := h'
  rw [hct] at hp
  simp only [Option.map_some, Option.some.injEq] at hp
  obtain ⟨f, rfl⟩ := eq_tab cs n (by rw [← hn, ← hsz]; rfl)
  refine ⟨f, rfl, fun i k hk => ?_⟩
  rw [get_eq] at hk
  have hi : i < n := by
    have := (List.getElem?_eq_some_iff.1 hk).1
    omega
  refine ⟨hi, ?_⟩
  have hlen : ts'.length = ks.length := by have := congrArg List.length hp; simpa using this
  obtain ⟨u, hu, hok⟩ := hall i (f i) (by rw [List.getElem?_toArray, tab_get, if_pos hi, Nat.zero_add])
  rw [Nat.mod_eq_of_lt (by omega)] at hu
  have h1 : (ts'.map (kdT P))[i]? = some (kdT P u) := by rw [List.getElem?_map, hu]; rfl
  rw [hp, List.getElem?_map, hk] at h1
  simp only [Option.map_some, Option.some.injEq] at h1
  exact cell_kind h1.symm hok
theorem tab_congr {f g : Nat → Value} (n : Nat) : ∀ i, (∀ j, i ≤ j → j < i + n → f j = g j) → tab f n i = tab g n i := by
  induction n with
  | zero => intro i _; rfl
  | succ n ih =>
    intro i h
    simp only [tab]
    rw [h i (Nat.le_refl _) (by omega), ih (i + 1) fun j h1 h2 => h j (by omega) (by omega)]
theorem kd_int {k : IntKind} {v : Value} (h : hasKd (.int k) v = true) : ∃ n, v = .int k n := by
  cases v <;> simp only [hasKd, Bool.false_eq_true] at h
  rename_i k' n
  cases k <;> cases k' <;> first | exact ⟨n, rfl⟩ | simp [sameKind] at h
theorem kd_bool {v : Value} (h : hasKd .bool v = true) : ∃ b, v = .bool b := by
  cases v <;> simp only [hasKd, Bool.false_eq_true] at h
  exact ⟨_, rfl⟩
theorem kd_one {k : Kd} {v : Value} (h : hasKd k v = true) : v.oneCell' = true := by
  unfold hasKd at h
  split at h <;> first | rfl | cases h
theorem kd_flat {k : Kd} {v : Value} (h : hasKd k v = true) : flat v = true := by
  unfold hasKd at h
  split at h <;> first | rfl | cases h
end Go.Am
