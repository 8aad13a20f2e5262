/- Values that are not known: tokens at the begin of a call, and what is known of tests on them. -/
import Derived.Test.YtbhiilfifandhaaAm23
set_option linter.unusedVariables false
set_option linter.unusedSimpArgs false
set_option linter.unusedSectionVars false
namespace Go.Am

/-- What a value of the machine stands for, where it is a token or leads nowhere. -/
def tv (f : Nat → Value) : Value → Value
  | .chan (some i) => f i
  | v => v
def tokOk (n : Nat) : Value → Bool
  | .chan (some i) => Nat.blt i n
  | v => flat v
def tokInj (f : Nat → Value) (n : Nat) : Inj := fun i => if i < n then some ⟨0, 0, 0, 0, f i⟩ else none
theorem tv_eq {f : Nat → Value} {n : Nat} {ρ : Inj} (hle : (tokInj f n).le ρ) {a a' : Value} (hr : VRel ρ a a') (ha : tokOk n a = true) : a' = tv f a := by
  by_cases ht : ∃ i, a = .chan (some i)
  · obtain ⟨i, rfl⟩ := ht
    have hi : i < n := (blt_iff _ _).1 ha
    have h1 := hle i ⟨0, 0, 0, 0, f i⟩ (by unfold tokInj; rw [if_pos hi])
    cases hr with
    | flat h => simp [flat] at h
    | tok h ho => rw [h1] at h; cases h; rfl
  · have hf : flat a = true := by
      unfold tokOk at ha
      split at ha
      · exact absurd ⟨_, rfl⟩ ht
      · exact ha
    rw [hr.same hf]
    unfold tv
    split
    · exact absurd ⟨_, rfl⟩ ht
    · rfl
theorem tv_rel {f : Nat → Value} {n : Nat} {ρ : Inj} (hle : (tokInj f n).le ρ) (ho : ∀ i, i < n → (f i).oneCell' = true) {a : Value} (ha : tokOk n a = true) : VRel ρ a (tv f a) := by
  by_cases ht : ∃ i, a = .chan (some i)
  · obtain ⟨i, rfl⟩ := ht
    have hi : i < n := (blt_iff _ _).1 ha
    have h1 := hle i ⟨0, 0, 0, 0, f i⟩ (by unfold tokInj; rw [if_pos hi])
    exact VRel.tok h1 (ho i hi)
  · have hf : flat a = true := by
      unfold tokOk at ha
      split at ha
      · exact absurd ⟨_, rfl⟩ ht
      · exact ha
    have : tv f a = a := by
      unfold tv
      split
      · exact absurd ⟨_, rfl⟩ ht
      · rfl
    rw [this]
    exact .flat hf
def eqTok : Value → Value → Bool
  | .chan (some i), .chan (some j) => Nat.beq i j
  | .int k m, .int k' n => sameKind k k' && decide (m = n)
  | .bool a, .bool b => a == b
  | _, _ => false
theorem eqTok_eq {a b : Value} (h : eqTok a b = true) : a = b := by
  unfold eqTok at h
  split at h
  · rename_i i j; rw [show i = j by simpa using h]
  · rename_i k m k' n
    simp only [Bool.and_eq_true, decide_eq_true_eq] at h
    have hk : k = k' := by
      have := h.1
      cases k <;> cases k' <;> first | rfl | simp [sameKind] at this
    rw [hk, h.2]
  · rename_i a b; rw [show a = b by simpa using h]
  · cases h
def sameTok : List Value → List Value → Bool
  | [], [] => true
  | a :: r, b :: s => eqTok a b && sameTok r s
  | _, _ => false
theorem sameTok_eq {x y : List Value} (h : sameTok x y = true) : x = y := by
  induction x generalizing y with
  | nil => cases y with
    | nil => rfl
    | cons _ _ => cases h
  | cons a r ih => cases y with
    | nil => cases h
    | cons b s =>
      simp only [sameTok, Bool.and_eq_true] at h
      rw [eqTok_eq h.1, ih h.2]
def isOp (a b : BinOp) : Bool := decide (a = b)
/-- What is known: an operation, its operands, what it comes to. -/
abbrev Fact := BinOp × Value × Value × Value
def look : List Fact → BinOp → Value → Value → Option Value
  | [], _, _, _ => none
  | (op, a, b, r) :: T, op', a', b' => if isOp op op' && eqTok a a' && eqTok b b' then some r else look T op' a' b'
theorem look_mem {T : List Fact} {op : BinOp} {a b r : Value} (h : look T op a b = some r) : (op, a, b, r) ∈ T := by
  induction T with
  | nil => cases h
  | cons e T ih =>
    obtain ⟨op0, a0, b0, r0⟩ := e
    unfold look at h
    split at h
    · rename_i hc
      cases h
      simp only [Bool.and_eq_true] at hc
      rw [show op0 = op from of_decide_eq_true hc.1.1, eqTok_eq hc.1.2, eqTok_eq hc.2]
      exact List.mem_cons_self ..
    · exact List.mem_cons_of_mem _ (ih h)
def kindA (ks : List Kd) : Value → Option Kd
  | .chan (some i) => get ks i
  | .int k _ => some (.int k)
  | .bool _ => some .bool
  | .string _ => some .string
  | _ => none
def kindsA (ks : List Kd) : List Value → Option (List Kd)
  | [] => some []
  | a :: r => match kindA ks a, kindsA ks r with
    | some k, some l => some (k :: l)
    | _, _ => none
def eqOp : BinOp → Option Value
  | .eql => some (.bool true)
  | .neq => some (.bool false)
  | _ => none
def isStr : Option TypeDesc → Bool
  | some (.struct _) => true
  | _ => false
def selfEq (P : Program) (ks : List Kd) (t : TypeId) (x y : List Value) : Bool :=
  sameTok x y && isStr (P.underlying t) && (match kindsA ks x with | some k => wtK P 5 t k | none => false) && !P.eqGuardType P.depth t
def orcOf (P : Program) (T : List Fact) (ks : List Kd) : Op → Option (List Value → Option Value)
  | .binOp op t _ _ _ => some fun vs => match vs with
    | [a, b] => (match look T op a b with
      | some r => some r
      | none => (match a, b with
        | .agg ⟨x⟩, .agg ⟨y⟩ => if selfEq P ks t x y then eqOp op else none
        | _, _ => none))
    | _ => none
  | _ => none
theorem kinds_rel {ks : List Kd} {f : Nat → Value} {n : Nat} (hk : ∀ i k, get ks i = some k → i < n ∧ hasKd k (f i) = true) (x : List Value) : ∀ {l : List Kd}, kindsA ks x = some l → KRel l (x.map (tv f)) ∧ ∀ a, a ∈ x → tokOk n a = true := by
  induction x with
  | nil =>
    intro l h
    simp only [kindsA, Option.some.injEq] at h
    subst h
    exact ⟨⟨rfl, by simp⟩, by simp⟩
  | cons a r ih =>
    intro l h
    unfold kindsA at h
    split at h
    · rename_i k l' h1 h2
      cases h
      obtain ⟨i1, i2⟩ := ih h2
      have ha : hasKd k (tv f a) = true ∧ tokOk n a = true := by
        unfold kindA at h1
        split at h1
        · rename_i i
          obtain ⟨g1, g2⟩ := hk i k h1
          exact ⟨g2, (blt_iff _ _).2 g1⟩
        · cases h1; rename_i k' m; exact ⟨by cases k' <;> rfl, rfl⟩
        · cases h1; exact ⟨rfl, rfl⟩
        · cases h1; exact ⟨rfl, rfl⟩
        · cases h1
      refine ⟨⟨by simp [i1.1], fun j k' c hj hj' => ?_⟩, fun b hb => ?_⟩
      · cases j with
        | zero => simp at hj hj'; subst hj hj'; exact ha.1
        | succ j => exact i1.2 j k' c (by simpa using hj) (by simpa using hj')
      · rcases List.mem_cons.1 hb with rfl | hb
        · exact ha.2
        · exact i2 b hb
    · cases h
theorem LRel.tv {f : Nat → Value} {n : Nat} {ρ : Inj} (hle : (tokInj f n).le ρ) (x : List Value) : ∀ {cs : List Value}, LRel ρ x cs → (∀ a, a ∈ x → tokOk n a = true) → cs = x.map (Am.tv f) := by
  induction x with
  | nil => intro cs h _; exact h.nil_inv
  | cons a r ih =>
    intro cs h ha
    obtain ⟨a', r', rfl, h1, h2⟩ := h.cons_inv
    rw [List.map_cons, tv_eq hle h1 (ha a (List.mem_cons_self ..)), ih h2 fun b hb => ha b (List.mem_cons_of_mem _ hb)]
/-- The facts hold of what the tokens stand for. -/
def FactsOk (P : Program) (f : Nat → Value) (n : Nat) (T : List Fact) : Prop :=
  ∀ op a b r, (op, a, b, r) ∈ T → tokOk n a = true ∧ tokOk n b = true ∧ tokOk n r = true ∧ ∀ t x y w, (do eqGuard op t x y (tv f a) (tv f b); Go.binOp op t (tv f a) (tv f b) : Sem Value).run P w = .ok (tv f r) w
theorem orcOf_ok {E : Env} {T : List Fact} {ks : List Kd} (ho : E.orc = orcOf E.P T ks) {f : Nat → Value} {n : Nat} (h1 : ∀ i, i < n → (f i).oneCell' = true) (hk : ∀ i k, get ks i = some k → i < n ∧ hasKd k (f i) = true) (hT : FactsOk E.P f n T) : OrcOk E (tokInj f n) := by
  intro op g hg vs v hv ρ' hle o ev hop hA w
  rw [ho] at hg
  unfold orcOf at hg
  split at hg
  · rename_i op2 t x y yt
    cases hg
    simp only at hv
    split at hv
    · rename_i a b
      have hA' : LRel ρ' [a, b] [ev x, ev y] := by simpa [Op.operands] using hA
      obtain ⟨a', b', he, ra, rb⟩ := hA'.two
      simp only [List.cons.injEq, and_true] at he
      obtain ⟨rfl, rfl⟩ := he
      have hexec : ∀ r, (do eqGuard op2 t x y (ev x) (ev y); Go.binOp op2 t (ev x) (ev y) : Sem Value).run E.P w = .ok r w → (execOp ev o).run E.P w = .ok (.value r) w := by
        intro r hr
        unfold execOp
        rw [hop]
        simp only [Sem.run_bind] at hr ⊢
        rw [hr]
        rfl
      split at hv
      · rename_i r hl
        cases hv
        obtain ⟨k1, k2, k3, k4⟩ := hT _ _ _ _ (look_mem hl)
        refine ⟨tv f v, hexec _ ?_, tv_rel hle h1 k3⟩
        rw [tv_eq hle ra k1, tv_eq hle rb k2]
        exact k4 t x y w
      · split at hv
        · rename_i xs ys
          split at hv
          · rename_i hc
            simp only [selfEq, Bool.and_eq_true, Bool.not_eq_true'] at hc
            obtain ⟨⟨⟨c1, c2⟩, c3⟩, c4⟩ := hc
            have hxy := (sameTok_eq c1).symm
            subst hxy
            split at c3
            · rename_i l hl
              obtain ⟨g1, g2⟩ := kinds_rel hk xs hl
              obtain ⟨cs1, e1, l1⟩ := agg_inv ra
              obtain ⟨cs2, e2, l2⟩ := agg_inv rb
              have m1 := LRel.tv hle xs l1 g2
              have m2 := LRel.tv hle xs l2 g2
              subst m1 m2
              have hu : ∃ fs, E.P.underlying t = some (.struct fs) := by
                cases hd : E.P.underlying t with
                | none => rw [hd] at c2; cases c2
                | some d => rw [hd] at c2; cases d <;> first | exact ⟨_, rfl⟩ | cases c2
              obtain ⟨fs, hu⟩ := hu
              have heq := equalIn_refl w 5 10000 t l (xs.map (tv f)) (.agg ⟨xs.map (tv f)⟩) (by omega) c3 g1 (by unfold wtV; rw [hu])
              have heq' : (Op.equal t (.agg ⟨xs.map (tv f)⟩) (.agg ⟨xs.map (tv f)⟩)).run E.P w = .ok true w := heq
              have hgd : (eqGuard op2 t x y (.agg ⟨xs.map (tv f)⟩) (.agg ⟨xs.map (tv f)⟩)).run E.P w = .ok () w := by
                unfold eqGuard
                cases op2 <;> simp [c4]
              cases op2 <;> simp only [eqOp, Option.some.injEq, reduceCtorEq] at hv
              · subst hv
                exact ⟨.bool true, hexec _ (by rw [e1, e2]; simp [hgd, Go.binOp, heq']), .flat rfl⟩
              · subst hv
                exact ⟨.bool false, hexec _ (by rw [e1, e2]; simp [hgd, Go.binOp, heq']), .flat rfl⟩
            · cases c3
          · cases hv
        · cases hv
    · cases hv
  · cases hg
/-- Only tokens are known at the begin. -/
theorem tokInj_rel {E : Env} (hg : E.ng = 0) {f : Nat → Value} {n : Nat} (ho : OrcOk E (tokInj f n)) (w : World) : SRel E (tokInj f n) ⟨[], n, []⟩ w :=
  ⟨⟨fun i o b h => (by cases h), fun i j b e mi mj h => (by cases h)⟩, fun i hi => (by have : n ≤ i := hi; unfold tokInj; rw [if_neg (by omega)]), fun g hg' => (by rw [hg] at hg'; cases hg'), ho⟩
/-- Cells of which some are known. -/
def given : List (Nat × Value) → Nat → Value
  | [], i => .chan (some i)
  | (j, v) :: r, i => if Nat.beq j i then v else given r i
theorem given_rel {f : Nat → Value} {n m : Nat} (hmn : m ≤ n) (h1 : ∀ i, i < n → (f i).oneCell' = true) (L : List (Nat × Value)) (hL : ∀ i v, (i, v) ∈ L → flat v = true ∧ f i = v) : LRel (tokInj f n) (tab (given L) m 0) (tab f m 0) := by
  have key : ∀ L' : List (Nat × Value), (∀ i v, (i, v) ∈ L' → flat v = true ∧ f i = v) → ∀ i, i < n → VRel (tokInj f n) (given L' i) (f i) := by
    intro L'
    induction L' with
    | nil =>
      intro _ i hi
      have h2 : tokInj f n i = some ⟨0, 0, 0, 0, f i⟩ := by unfold tokInj; rw [if_pos hi]
      exact VRel.tok h2 (h1 i hi)
    | cons e r ih =>
      intro h i hi
      obtain ⟨j, v⟩ := e
      unfold given
      by_cases hj : j = i
      · subst hj
        obtain ⟨k1, k2⟩ := h j v (List.mem_cons_self ..)
        have : Nat.beq j j = true := by simp
        rw [if_pos this, k2]
        exact .flat k1
      · have : ¬ (Nat.beq j i = true) := by simpa using hj
        rw [if_neg this]
        exact ih (fun a b hab => h a b (List.mem_cons_of_mem _ hab)) i hi
  refine ⟨?_, fun j v v' hv hv' => ?_⟩
  · have len : ∀ (g : Nat → Value) (n i : Nat), (tab g n i).length = n := by
      intro g n
      induction n with
      | zero => intro i; rfl
      | succ n ih => intro i; simp [tab, ih]
    rw [len, len]
  · rw [tab_get] at hv hv'
    split at hv
    · rename_i hj
      rw [if_pos hj] at hv'
      simp only [Nat.zero_add, Option.some.injEq] at hv hv'
      subst hv hv'
      exact key L hL j (by omega)
    · cases hv
end Go.Am
