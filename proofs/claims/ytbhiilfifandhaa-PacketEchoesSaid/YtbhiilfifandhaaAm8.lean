/- What the model's run of an operation comes to, operation by operation: conversions, slices, fields, elements. -/
import Derived.Test.YtbhiilfifandhaaAm7
set_option linter.unusedVariables false
set_option linter.unusedSimpArgs false
set_option linter.unusedSectionVars false
namespace Go.Am

theorem slice_inv {ρ : Inj} {b : Addr} {len cap : Nat} {v' : Value} (h : VRel ρ (.slice (some b) len cap) v') :
    ∃ rb ro cap', v' = .slice (some ⟨rb, ro, none⟩) len cap' ∧ len ≤ cap ∧ cap ≤ cap' ∧ (b.spot.isSome = true → cap' = cap) ∧
      ((∃ m, ρ b.block = some m ∧ rb = m.blk ∧ ro = m.off + b.off ∧ (b.spot = none → m.off + b.off + cap' * m.sz ≤ m.tot)) ∨ (len = 0 ∧ cap = 0 ∧ cap' = 0)) := by
  cases h with
  | flat h => simp [flat] at h
  | opens h hl hc ht => exact ⟨_, _, _, rfl, hl, hc, by simp, .inl ⟨_, h, rfl, rfl, fun _ => ht⟩⟩
  | shut h hl => exact ⟨_, _, _, rfl, hl, Nat.le_refl _, fun _ => rfl, .inl ⟨_, h, rfl, rfl, by simp⟩⟩
  | empty => exact ⟨_, _, _, rfl, Nat.le_refl _, Nat.le_refl _, fun _ => rfl, .inr ⟨rfl, rfl, rfl⟩⟩
theorem nil_inv {ρ : Inj} {len cap : Nat} {v' : Value} (h : VRel ρ (.slice none len cap) v') : len = 0 ∧ cap = 0 ∧ v' = .slice none 0 0 := by
  cases h with
  | flat h =>
    cases len with
    | zero => cases cap with
      | zero => exact ⟨rfl, rfl, rfl⟩
      | succ n => simp [flat] at h
    | succ n => simp [flat] at h
theorem agg_inv {ρ : Inj} {cs : List Value} {v' : Value} (h : VRel ρ (.agg ⟨cs⟩) v') : ∃ cs', v' = .agg ⟨cs'⟩ ∧ LRel ρ cs cs' := by
  have := h.cells
  cases h with
  | flat h => exact ⟨cs, rfl, this⟩
  | agg hl hc => exact ⟨_, rfl, hl, hc⟩
theorem tuple_inv {ρ : Inj} {cs : List Value} {v' : Value} (h : VRel ρ (.tuple ⟨cs⟩) v') : ∃ cs', v' = .tuple ⟨cs'⟩ ∧ LRel ρ cs cs' := by
  cases h with
  | flat h => exact ⟨cs, rfl, LRel.flat (by simpa [flat] using h)⟩
  | tuple hl hc => exact ⟨_, rfl, hl, hc⟩
theorem map_inv {ρ : Inj} {i : Nat} {v' : Value} (h : VRel ρ (.map (some i)) v') : ∃ m, ρ i = some m ∧ v' = .map (some m.blk) := by
  cases h with
  | flat h => simp [flat] at h
  | map h => exact ⟨_, h, rfl⟩
theorem bytesOf_eq (cs : List Value) {bs : List UInt8} (h : bytesOf cs = some bs) : flatL cs = true ∧ ∃ ns : List Int, cs = ns.map (Value.int .u8) ∧ bs = ns.map fun n => UInt8.ofNat n.toNat := by
  induction cs generalizing bs with
  | nil => simp only [bytesOf, Option.some.injEq] at h; subst h; exact ⟨rfl, [], rfl, rfl⟩
  | cons c r ih =>
    unfold bytesOf at h
    split at h
    · rename_i heq; cases heq
    · rename_i n r' heq
      cases heq
      obtain ⟨bs', h1, rfl⟩ := Option.map_eq_some_iff.1 h
      obtain ⟨hf, ns, rfl, rfl⟩ := ih h1
      exact ⟨by simp [flatL, flat, hf], n :: ns, rfl, rfl⟩
    · cases h
theorem pushes_eq (ns : List Int) (s : ByteArray) : ns.foldl (fun r n => r.push (UInt8.ofNat n.toNat)) s = ⟨⟨s.data.toList ++ ns.map fun n => UInt8.ofNat n.toNat⟩⟩ := by
  induction ns generalizing s with
  | nil => simp
  | cons n r ih => rw [List.foldl_cons, ih]; simp [ByteArray.push]
theorem freeze_alloc (w : World) (c : Array Value) (t : TypeId) : (w.alloc (.cells c t)).freeze ⟨w.heap.size, c.size, none⟩ 1 = w.alloc (.cells c t (c.size, c.size + 1)) := by
  unfold World.freeze World.alloc
  simp only [Nat.succ_ne_self, if_false, Nat.one_ne_zero]
  congr 1
  apply Array.ext'
  apply List.ext_getElem?
  intro r
  simp only [Array.getElem?_toList, Array.getElem?_modify, Array.getElem?_push]
  by_cases hr : w.heap.size = r
  · subst hr; simp
  · simp [hr, Ne.symm hr]
/-- The cells of a string's bytes and of what lies behind them. -/
def byteRow (s : ByteArray) (cap : Nat) : Array Value := (s.data.map fun b => Value.int .u8 b.toNat) ++ Array.replicate (cap - s.size) (.int .u8 0)
theorem byteRow_size (s : ByteArray) (cap : Nat) (h : s.size ≤ cap) : (byteRow s cap).size = cap := by
  unfold byteRow
  rw [Array.size_append, Array.size_replicate, Array.size_map]
  have : s.data.size = s.size := rfl
  omega
theorem stringToBytes_run {P : Program} (w : World) (elem : TypeId) (s : ByteArray) :
    (Conv.stringToBytes elem s).run P w = .ok (.slice (some ⟨w.heap.size, 0, none⟩) s.size (grownCap w s.size 0 elem)) (w.drew.alloc (.cells (byteRow s (grownCap w s.size 0 elem)) elem (grownCap w s.size 0 elem, grownCap w s.size 0 elem + 1))) := by
  have hge := grownCap_ge w s.size 0 elem
  have e0 : (Conv.stringToBytes elem s).run P w = ((choose (.appendCap s.size 0 elem)).run P w).andThen fun cap w1 => ((newRow elem (byteRow s cap)).run P w1).andThen fun a w2 => ((markStringish a).run P w2).andThen fun _ w3 => .ok (.slice (some a) s.size cap) w3 := by
    simp only [Conv.stringToBytes, Sem.run_bind, Sem.run_pure]
    rfl
  have h1 : (choose (.appendCap s.size 0 elem)).run P w = .ok (grownCap w s.size 0 elem) w.drew := by
    rw [run_choose, if_neg (by simp [Question.forced])]
    rfl
  rw [e0, h1, Result.andThen_ok]
  generalize grownCap w s.size 0 elem = cap at hge
  have h2 : (newRow elem (byteRow s cap)).run P w.drew = .ok ⟨w.heap.size, 0, none⟩ (w.drew.alloc (.cells (byteRow s cap) elem)) := rfl
  have hf := freeze_alloc w.drew (byteRow s cap) elem
  rw [byteRow_size s cap hge] at hf
  have hshape : (w.drew.alloc (.cells (byteRow s cap) elem)).shape? w.heap.size = some (elem, cap) := by
    unfold World.shape?
    rw [show (w.drew.alloc (.cells (byteRow s cap) elem)).heap[w.heap.size]? = _ from heap_alloc_new w.drew _]
    simp [byteRow_size s cap hge]
  have h3 : (markStringish ⟨w.heap.size, 0, none⟩).run P (w.drew.alloc (.cells (byteRow s cap) elem)) = .ok () (w.drew.alloc (.cells (byteRow s cap) elem (cap, cap + 1))) := by
    simp only [markStringish, Sem.run_bind, run_shape, Result.andThen_ok, hshape, run_freeze]
    rw [← hf]
    rfl
  rw [h2, Result.andThen_ok, h3, Result.andThen_ok]

section
variable {E : Env} (hE : E.Ok) {ρ : Inj} {st : St} {w : World} (hS : SRel E ρ st w) {tmps : List Value} {a : Act}
include hE hS

theorem convert_sound {src dst : TypeId} {x : Operand} {v : Value} {st' : St} (hx : EvR E ρ tmps a x) (h : stepConvert E tmps src dst x st = some (.val v st')) :
    Val E ρ st w ((Go.convert src dst (a.eval x)).run E.P w) v st' := by
  unfold stepConvert at h
  split at h
  case h_2 => cases h
  rename_i u hu
  unfold convertOp at h
  split at h
  · rename_i k k' n hk
    obtain ⟨d, hd, hk'⟩ := hE.kd hk
    obtain rfl := kdOf_int hk'
    split at h
    · rename_i ks hks
      cases h
      obtain ⟨ds, hds, _⟩ := hE.kd hks
      rw [(hx _ hu).same rfl]
      exact Val.here hS (by simp [Go.convert, am_underlying w hds, am_underlying w hd, Conv.intToInt]) (.flat rfl)
    · cases h
  · rename_i elem s hk
    obtain ⟨d, hd, hk'⟩ := hE.kd hk
    obtain rfl := kdOf_slice hk'
    split at h
    · rename_i h1 h2 h3
      cases h
      obtain ⟨ds, hds, hks⟩ := hE.kd h1
      obtain rfl := kdOf_string hks
      obtain ⟨de, hde, hke⟩ := hE.kd h2
      obtain rfl := kdOf_int hke
      rw [(hx _ hu).same rfl]
      have hge := grownCap_ge w s.size 0 elem
      have hsz := byteRow_size s (grownCap w s.size 0 elem) hge
      have hszE : szOf E elem = 1 := by
        unfold Env.size at h3
        obtain ⟨ti, e1, e2⟩ := Option.map_eq_some_iff.1 h3
        simp [szOf, e1, e2]
      obtain ⟨ρ', m, g1, g2, g3, g4, g5, g6, g7⟩ := new_cells_fr hS.drew (s.data.toList.map fun b => Value.int .u8 b.toNat) elem elem
        (byteRow s (grownCap w s.size 0 elem)) (grownCap w s.size 0 elem, grownCap w s.size 0 elem + 1)
        (fun j v hv => by
          have hj := (List.getElem?_eq_some_iff.1 hv).1
          refine ⟨v, ?_, .flat ?_⟩
          · rw [byteRow, Array.getElem?_append_left (by simpa using hj), ← Array.getElem?_toList, Array.toList_map]; exact hv
          · rw [List.getElem?_map] at hv
            obtain ⟨b, _, rfl⟩ := Option.map_eq_some_iff.1 hv
            rfl) (fun j hj => by rw [hsz] at hj; simp only; omega)
      refine ⟨.slice (some ⟨w.heap.size, 0, none⟩) s.size (grownCap w s.size 0 elem), _, ρ', ?_, ?_, g6, g7.ofDrew⟩
      · simp only [Go.convert, Sem.run_bind, am_underlying w hds, am_underlying w hd, am_underlying w hde, Result.andThen_ok]
        exact stringToBytes_run w elem s
      · have := VRel.opens (off := 0) (len := s.size) (cap := s.size) (cap' := grownCap w s.size 0 elem) g1 (Nat.le_refl _) hge (by rw [g3, g5, g4, hsz, hszE]; omega)
        rw [g2, g3] at this
        exact this
    · cases h
  · rename_i b n cap hk
    obtain ⟨d, hd, hk'⟩ := hE.kd hk
    obtain rfl := kdOf_string hk'
    split at h
    · rename_i elem h1
      obtain ⟨ds, hds, hks⟩ := hE.kd h1
      obtain rfl := kdOf_slice hks
      split at h
      · rename_i h2
        obtain ⟨de, hde, hke⟩ := hE.kd h2
        obtain rfl := kdOf_int hke
        split at h
        · cases h
          obtain ⟨rfl, rfl, he⟩ := nil_inv (hx _ hu)
          rw [he]
          exact Val.here hS (by simp [Go.convert, am_underlying w hds, am_underlying w hd, am_underlying w hde, Conv.bytesToString]) (.flat rfl)
        · rename_i b
          obtain ⟨rb, ro, cap', he, q1, q2, q3, q4⟩ := slice_inv (hx _ hu)
          rw [he]
          split at h
          · rename_i hn
            cases h
            have hn' : n = 0 := by simpa using hn
            subst hn'
            have := run_bytesToString (P := E.P) w ⟨rb, ro, none⟩ 0 cap' [] (by simp [Go.loadCells, Go.loadCellsFrom])
            exact Val.here hS (by simp [Go.convert, am_underlying w hds, am_underlying w hd, am_underlying w hde, this]) (.flat rfl)
          · rename_i hn
            have hn' : ¬ n = 0 := by simpa using hn
            split at h
            · cases h
            · rename_i cs hcs
              obtain ⟨bs, h3, h4⟩ := Option.map_eq_some_iff.1 h
              cases h4
              obtain ⟨hf, ns, rfl, rfl⟩ := bytesOf_eq _ h3
              obtain ⟨_, m, hm, cs', hl, hrel, hrun, _⟩ := load_cells hS.heap hcs
              obtain rfl := hrel.same hf
              rcases q4 with ⟨m', hm', rfl, rfl, _⟩ | ⟨h0, _⟩
              · rw [hm] at hm'; cases hm'
                have := run_bytesToString (P := E.P) w ⟨m.blk, m.off + b.off, none⟩ n cap' ns hrun
                rw [pushes_eq] at this
                exact Val.here hS (by simp [Go.convert, am_underlying w hds, am_underlying w hd, am_underlying w hde, this]) (.flat rfl)
              · exact absurd h0 hn'
      · cases h
    · cases h
  · split at h
    · rename_i hf
      unfold ret at h
      split at h
      · rename_i r hr
        cases h
        rw [(hx _ hu).same hf]
        obtain ⟨hr', hfl⟩ := pureV_run hr w
        exact Val.here hS hr' (.flat hfl)
      · cases h
    · cases h
end
end Go.Am
