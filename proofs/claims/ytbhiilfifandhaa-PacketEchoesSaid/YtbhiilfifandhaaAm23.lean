/- Values that are not known: tokens at the begin of a call, what is known of tests on them, and that a struct of numbers, truth values and strings is equal to itself. -/
import Derived.Test.YtbhiilfifandhaaAm22
set_option linter.unusedVariables false
set_option linter.unusedSimpArgs false
set_option linter.unusedSectionVars false
namespace Go.Am

/-! ### Equal to itself -/
def hasKd : Kd → Value → Bool
  | .int k, .int k' _ => sameKind k k'
  | .bool, .bool _ => true
  | .string, .string _ => true
  | _, _ => false
/-- Cells of such kinds make a value of the type, part by part. -/
def wtK (P : Program) : Nat → TypeId → List Kd → Bool
  | 0, _, _ => false
  | n + 1, t, ks =>
    match P.underlying t, ks with
    | some .bool, [.bool] => true
    | some (.int k), [.int k'] => sameKind k k'
    | some .string, [.string] => true
    | some (.struct fs), ks => !P.stoodInHeld t && Nat.beq ks.length (P.cellsOf t) && fs.toList.all fun f => (P.info? f.type).isSome && wtK P n f.type ((ks.drop f.offset).take (P.cellsOf f.type))
    | _, _ => false
def wtV (P : Program) (t : TypeId) (cs : List Value) (v : Value) : Prop := match P.underlying t with
  | some (.struct _) => v = .agg ⟨cs⟩
  | _ => cs = [v]
theorem forIn_same {P : Program} {α β : Type} (f : α → β → Sem (ForInStep β)) (b : β) (w : World) (l : List α) (h : ∀ a, a ∈ l → (f a b).run P w = .ok (.yield b) w) : (forIn l b f).run P w = .ok b w := by
  induction l with
  | nil => rfl
  | cons a r ih =>
    rw [List.forIn_cons, Sem.run_bind, h a (List.mem_cons_self ..), Result.andThen_ok]
    exact ih fun x hx => h x (List.mem_cons_of_mem _ hx)
theorem cellsOf_size {P : Program} {t : TypeId} {i : TypeInfo} (h : P.info? t = some i) : P.cellsOf t = i.size := by simp [Program.cellsOf, h]
theorem bytes_self (s : ByteArray) : (s == s) = true := by
  show ByteArray.beq s s = true
  unfold ByteArray.beq
  exact beq_self_eq_true s.data
def KRel (ks : List Kd) (cs : List Value) : Prop := ks.length = cs.length ∧ ∀ (j : Nat) k c, ks[j]? = some k → cs[j]? = some c → hasKd k c = true
theorem KRel.sub {ks : List Kd} {cs : List Value} (h : KRel ks cs) (a n : Nat) : KRel ((ks.drop a).take n) ((cs.drop a).take n) :=
  ⟨by simp [h.1], fun j k c hk hc => by
    rw [List.getElem?_take] at hk hc
    split at hk
    · rename_i hj
      rw [if_pos hj] at hc
      exact h.2 (a + j) k c (by simpa using hk) (by simpa using hc)
    · cases hk⟩
theorem KRel.one {k : Kd} {cs : List Value} (h : KRel [k] cs) : ∃ c, cs = [c] ∧ hasKd k c = true := by
  obtain ⟨h1, h2⟩ := h
  cases cs with
  | nil => simp at h1
  | cons c r => cases r with
    | nil => exact ⟨c, rfl, h2 0 k c rfl rfl⟩
    | cons _ _ => simp at h1
theorem wtK_inv {P : Program} {n : Nat} {t : TypeId} {ks : List Kd} (h : wtK P (n + 1) t ks = true) :
    (P.underlying t = some .bool ∧ ks = [.bool]) ∨ (∃ k k', P.underlying t = some (.int k) ∧ ks = [.int k']) ∨ (P.underlying t = some .string ∧ ks = [.string]) ∨
      ∃ fs, P.underlying t = some (.struct fs) ∧ P.stoodInHeld t = false ∧ ∀ f : Field, f ∈ fs.toList → (P.info? f.type).isSome = true ∧ wtK P n f.type ((ks.drop f.offset).take (P.cellsOf f.type)) = true := by
  unfold wtK at h
  split at h
  · rename_i hu; exact .inl ⟨hu, rfl⟩
  · rename_i hu; exact .inr (.inl ⟨_, _, hu, rfl⟩)
  · rename_i hu; exact .inr (.inr (.inl ⟨hu, rfl⟩))
  · rename_i fs hu
    simp only [Bool.and_eq_true, Bool.not_eq_true'] at h
    refine .inr (.inr (.inr ⟨fs, hu, h.1.1, fun f hf => ?_⟩))
    have := List.all_eq_true.1 h.2 f hf
    rwa [Bool.and_eq_true] at this
  · cases h
theorem equalIn_refl {P : Program} (w : World) (n : Nat) : ∀ (d : Nat) (t : TypeId) (ks : List Kd) (cs : List Value) (v : Value), n ≤ d → wtK P n t ks = true → KRel ks cs → wtV P t cs v → (Op.equalIn d t v v).run P w = .ok true w := by
  induction n with
  | zero => intro d t ks cs v _ h; cases h
  | succ n ih =>
    intro d t ks cs v hd h hk hv
    obtain ⟨d, rfl⟩ : ∃ e, d = e + 1 := ⟨d - 1, by omega⟩
    unfold wtV at hv
    rcases wtK_inv h with ⟨hu, rfl⟩ | ⟨k, k', hu, rfl⟩ | ⟨hu, rfl⟩ | ⟨fs, hu, h1, h3⟩
    · rw [hu] at hv
      obtain ⟨c, rfl, hc⟩ := hk.one
      simp only [List.cons.injEq, and_true] at hv
      subst hv
      cases c <;> simp only [hasKd, Bool.false_eq_true] at hc
      simp [Op.equalIn, am_underlying w hu]
    · rw [hu] at hv
      obtain ⟨c, rfl, hc⟩ := hk.one
      simp only [List.cons.injEq, and_true] at hv
      subst hv
      cases c <;> simp only [hasKd, Bool.false_eq_true] at hc
      simp [Op.equalIn, am_underlying w hu]
    · rw [hu] at hv
      obtain ⟨c, rfl, hc⟩ := hk.one
      simp only [List.cons.injEq, and_true] at hv
      subst hv
      cases c <;> simp only [hasKd, Bool.false_eq_true] at hc
      simp [Op.equalIn, am_underlying w hu, bytes_self]
    · rw [hu] at hv
      simp only at hv
      subst hv
      have hbody : ∀ f : Field, f ∈ fs.toList → ∃ x, (Go.part f.type ⟨cs⟩ f.offset).run P w = .ok x w ∧ (Op.equalIn d f.type x x).run P w = .ok true w := by
        intro f hf
        obtain ⟨hsome, hwt⟩ := h3 f hf
        obtain ⟨i, hi⟩ := Option.isSome_iff_exists.1 hsome
        have hsub := hk.sub f.offset (P.cellsOf f.type)
        have single : ∀ dsc k, P.underlying f.type = some dsc → (∀ fs', dsc ≠ .struct fs') → (kdOf dsc).agg = false → (ks.drop f.offset).take (P.cellsOf f.type) = [k] →
            ∃ x, (Go.part f.type ⟨cs⟩ f.offset).run P w = .ok x w ∧ (Op.equalIn d f.type x x).run P w = .ok true w := by
          intro dsc k hd' hst hag hk1
          rw [hk1] at hsub hwt
          obtain ⟨c, hc1, hc2⟩ := hsub.one
          have hc0 : cs[f.offset]? = some c := by
            have : ((cs.drop f.offset).take (P.cellsOf f.type))[0]? = some c := by rw [hc1]; rfl
            rw [List.getElem?_take] at this
            split at this
            · simpa using this
            · cases this
          refine ⟨c, by simp [Go.part, am_isAgg w hd', hag, hc0], ih d f.type [k] [c] c (by omega) hwt ⟨rfl, fun j k' c' hj hj' => ?_⟩ ?_⟩
          · cases j with
            | zero => simp at hj hj'; subst hj hj'; exact hc2
            | succ j => simp at hj
          · unfold wtV
            rw [hd']
            cases dsc <;> first | rfl | exact absurd rfl (hst _)
        cases n with
        | zero => cases hwt
        | succ n =>
          rcases wtK_inv hwt with ⟨hu2, h4⟩ | ⟨k, k', hu2, h4⟩ | ⟨hu2, h4⟩ | ⟨fs', hu2, _, _⟩
          · exact single _ _ hu2 (by simp) rfl h4
          · exact single _ _ hu2 (by simp) rfl h4
          · exact single _ _ hu2 (by simp) rfl h4
          · refine ⟨.agg ⟨(cs.drop f.offset).take (P.cellsOf f.type)⟩, ?_, ih d f.type _ _ _ (by omega) hwt hsub (by unfold wtV; rw [hu2])⟩
            have : (kdOf (.struct fs')).agg = true := rfl
            simp only [Go.part, Sem.run_bind, am_isAgg w hu2, Result.andThen_ok, this, if_true, am_sizeOf w hi, Sem.run_pure, cellsOf_size hi]
            congr 2
            apply Array.ext'
            simp
      simp only [Op.equalIn, Sem.run_bind, am_underlying w hu, Result.andThen_ok, run_program, h1, Bool.false_eq_true, if_false]
      rw [← Array.forIn_toList, forIn_same (P := P)]
      · rfl
      · intro f hf
        obtain ⟨x, e1, e2⟩ := hbody f hf
        by_cases hn : f.name = "_"
        · simp [hn]
        · simp [hn, e1, e2]
end Go.Am
