import Derived.Test.YtegajejaadkkiabM
import Derived.Deep.RegionLaw
import Derived.Deep.DeepCutAuto
namespace Go.Proofs.Ytegajejaadkkiab
open Go.RowKit

/-! the row of the law. -/
def val (f0 : Nat) (gs : Nat → Nat) : Nat → Nat
  | 0 => f0
  | i + 1 => val f0 gs i + gs i + 1
def rowL (f0 : Nat) (gs : Nat → Nat) (m : Nat) : List Nat := (List.range (m + 1)).map (val f0 gs)

theorem rowL_len (f0 : Nat) (gs : Nat → Nat) (m : Nat) : (rowL f0 gs m).length = m + 1 := by simp [rowL]
theorem rowL_get (f0 : Nat) (gs : Nat → Nat) (m i : Nat) (h : i ≤ m) : (rowL f0 gs m).getD i 0 = val f0 gs i := by
  unfold rowL
  rw [List.getD_eq_getElem?_getD, List.getElem?_map, List.getElem?_range (by omega)]; rfl
theorem val_lt (f0 : Nat) (gs : Nat → Nat) (h0 : f0 < 36028797018963968) (hg : ∀ i, gs i < 36028797018963968) : ∀ i, val f0 gs i < (i + 1) * 36028797018963968 := by
  intro i
  induction i with
  | zero => simpa [val] using h0
  | succ i ih => have := hg i; unfold val; omega
theorem rowL_rises (f0 : Nat) (gs : Nat → Nat) (m : Nat) (hm : m ≤ 40) (h0 : f0 < 36028797018963968) (hg : ∀ i, gs i < 36028797018963968) : Rises (rowL f0 gs m) := by
  refine ⟨fun i hi => ?_, fun i hi => ?_⟩
  · rw [rowL_len] at hi
    rw [rowL_get _ _ _ _ (by omega), two62]
    have := val_lt f0 gs h0 hg i
    have h2 : (i + 1) * 36028797018963968 ≤ 41 * 36028797018963968 := Nat.mul_le_mul_right _ (by omega)
    omega
  · rw [rowL_len] at hi
    rw [rowL_get _ _ _ _ (by omega), rowL_get _ _ _ _ (by omega)]
    show val f0 gs i < val f0 gs i + gs i + 1
    omega
theorem rowL_gap (f0 : Nat) (gs : Nat → Nat) (m i : Nat) (h : i + 1 ≤ m) : gapOf (rowL f0 gs m) (i + 1) = gs i := by
  unfold gapOf
  rw [if_neg (by omega), rowL_get _ _ _ _ h, Nat.add_sub_cancel, rowL_get _ _ _ _ (by omega)]
  show val f0 gs i + gs i + 1 - (val f0 gs i + 1) = gs i
  omega
theorem rowL_gap0 (f0 : Nat) (gs : Nat → Nat) (m : Nat) : gapOf (rowL f0 gs m) 0 = f0 := by
  unfold gapOf
  rw [if_pos rfl, rowL_get _ _ _ _ (by omega)]; rfl

theorem OwnR.ob {w0 w : World} {N : Nat} {row : Option Nat} {v : Value} {X : List Int} (h : OwnR w0 w row v X) (hr : ∀ q, row = some q → N ≤ q) (hN : N ≤ w0.heap.size) : OB N w v X :=
  own_base h.1 fun q hq => by
    rcases h.2 with e | e | ⟨r, e, hr2⟩
    · exact hr q (e ▸ hq)
    · rw [e] at hq; cases hq
    · rw [e] at hq; cases hq; omega
theorem OwnR.fr {w0 w : World} {v0 v : Value} {row : Option Nat} {X : List Int} (h : OwnR w0 w row v X) (hr : row = v0.ownBlock ∨ row = none) : Fr w0 v0 v := fun q hq => by
  rcases h.2 with e | e | ⟨r, e, hr2⟩
  · rcases hr with h2 | h2
    · exact .inl (by rw [← h2, ← e]; exact hq)
    · rw [h2] at e; rw [e] at hq; cases hq
  · rw [e] at hq; cases hq
  · rw [e] at hq; cases hq; exact .inr hr2

theorem clonei_n (a : Addr) (c : Nat) (l : List Int) (n : Nat) (w : World) (hn : n = l.length) (hl : l.length ≤ 1000000) (hc : ∀ i, i < l.length → w.cell? (a.add i) = some (.int .i64 (l.getD i 0))) : Calls Try.prog 17 #[.slice (some a) n c] w (RetO .i64 3 w l) := by
  subst hn; exact clonei_calls a c l w hl hc

theorem new_cell0 (w : World) (z : Int) (T : TypeId) : (w.alloc (.cells #[.int .i64 z] T)).cell? ⟨w.heap.size, 0, none⟩ = some (.int .i64 z) := by
  simp only [World.cell?, heap_new]; rfl
theorem cell_of_box (w : World) (z : Int) (T : TypeId) (w' : World) (h : Below (w.alloc (.cells #[.int .i64 z] T)).drew.heap.size (w.alloc (.cells #[.int .i64 z] T)).drew w') : w'.cell? ⟨w.heap.size, 0, none⟩ = some (.int .i64 z) := by
  rw [h.cell (p := ⟨w.heap.size, 0, none⟩) (by simp)]
  exact new_cell0 w z T

theorem OI.step {ops : Array Oper} {o : Oper} {a : Act} {K : Act → World → Prop} {Q : Exit → Act → World → Prop} {E : Prop} {base : Nat} {w : World} (hgd : o.guard = none) (s x : Operand)
    (ho : o.op = .call { callee := .builtin .append, args := #[s, x], argTypes := #[25, 25] })
    (v : Value) (xs : List Int) (hs : a.eval s = v) (hd : OI base w v xs) (c : Int) (ad : Addr)
    (hx : a.eval x = .slice (some ad) 1 1) (hc : w.cell? ad = some (.int .i64 c)) (hlen : xs.length ≤ 1000000) (hb : base ≤ w.heap.size)
    (h : ∀ v' w', OI base w' v' (xs ++ [c]) → w.grownBy w' v.ownBlock → K (a.put o.dst v') w') : if Region.wanted o (yielded ops a.tmps) = true then Oper.wp Try.prog o a w K Q else E := by
  have hw : Region.wanted o (yielded ops a.tmps) = true := by simp [Region.wanted, hgd]
  rw [if_pos hw]
  obtain ⟨i5, hi, hz0, hz1, hz2⟩ := info_parts info3
  refine wp_append_own _ s x 25 ho base 3 i5 _ 1 8 Try.underlying25 hi hz0 hz1 hz2 rfl (by decide) v _ _ hs hd ad 1 1 [.int .i64 c] hx rfl ?_ (by simp [Value.oneCell']) (by unfold maxLen; omega) (by omega) hb ?_
  · intro j u hj
    match j, hj with
    | 0, hj => simp at hj; subst hj; simpa [Addr.add] using hc
  intro v' w' hd' hg _
  refine h v' w' ?_ hg
  unfold OI; simpa using hd'

/-- what the law holds: the bytes, the row, what it wants, the runs. -/
structure S5 (w wr : World) (bv vr vw vu : Value) (l9 R X : List Int) (U : List (Int × Int)) : Prop where
  r : OI w.heap.size wr vr R
  x : OB w.heap.size wr vw X
  u : D2 w.heap.size wr vu U
  b : DB wr wr none bv l9
  rx : Dj vr vw
  ru : Dj vr vu
  xu : Dj vw vu
  br : Dj bv vr
  bx : Dj bv vw
  bu : Dj bv vu
  bel : Below w.heap.size w wr

section
variable {w wr w1 : World} {bv vr vw vu : Value} {l9 R X : List Int} {U : List (Int × Int)}
theorem S5.ltr (h : S5 w wr bv vr vw vu l9 R X U) : Lt wr vr := fun q hq => (World.ownsRow.lt h.r q hq).2
theorem S5.ltx (h : S5 w wr bv vr vw vu l9 R X U) : Lt wr vw := fun q hq => (World.ownsRow.lt h.x q hq).2
theorem S5.ltu (h : S5 w wr bv vr vw vu l9 R X U) : Lt wr vu := fun q hq => (World.ownsRow.lt h.u q hq).2
theorem S5.ltb (h : S5 w wr bv vr vw vu l9 R X U) : Lt wr bv := h.b.2
theorem S5.below (h : S5 w wr bv vr vw vu l9 R X U) (hb : Below wr.heap.size wr w1) : S5 w w1 bv vr vw vu l9 R X U := by
  have ne : ∀ v : Value, v.ownBlock = none ∨ v.ownBlock ≠ none := fun v => by cases e : v.ownBlock <;> simp
  have hg : wr.grownBy w1 none := below_grown hb
  exact ⟨World.ownsRow.kept h.r hg (ne _), World.ownsRow.kept h.x hg (ne _), World.ownsRow.kept h.u hg (ne _), h.b.kept hg (ne _), h.rx, h.ru, h.xu, h.br, h.bx, h.bu, h.bel.trans (hb.mono h.bel.size)⟩
theorem S5.upR (h : S5 w wr bv vr vw vu l9 R X U) {vr' : Value} {R' : List Int} (hr : OI w.heap.size w1 vr' R') (hg : wr.grownBy w1 vr.ownBlock) (hf : Fr wr vr vr') : S5 w w1 bv vr' vw vu l9 R' X U :=
  ⟨hr, World.ownsRow.kept h.x hg h.rx.symm.ne, World.ownsRow.kept h.u hg h.ru.symm.ne, h.b.kept hg h.br.ne, h.rx.fr hf h.ltx, h.ru.fr hf h.ltu, h.xu, (h.br.symm.fr hf h.ltb).symm, h.bx, h.bu,
    h.bel.grown hg h.bel.size (fun q hq => (World.ownsRow.lt h.r q hq).1)⟩
theorem S5.upX (h : S5 w wr bv vr vw vu l9 R X U) {vw' : Value} {X' : List Int} (hr : OB w.heap.size w1 vw' X') (hg : wr.grownBy w1 vw.ownBlock) (hf : Fr wr vw vw') : S5 w w1 bv vr vw' vu l9 R X' U :=
  ⟨World.ownsRow.kept h.r hg h.rx.ne, hr, World.ownsRow.kept h.u hg h.xu.symm.ne, h.b.kept hg h.bx.ne, (h.rx.symm.fr hf h.ltr).symm, h.ru, h.xu.fr hf h.ltu, h.br, (h.bx.symm.fr hf h.ltb).symm, h.bu,
    h.bel.grown hg h.bel.size (fun q hq => (World.ownsRow.lt h.x q hq).1)⟩
theorem S5.upU (h : S5 w wr bv vr vw vu l9 R X U) {vu' : Value} {U' : List (Int × Int)} (hr : D2 w.heap.size w1 vu' U') (hg : wr.grownBy w1 vu.ownBlock) (hf : Fr wr vu vu') : S5 w w1 bv vr vw vu' l9 R X U' :=
  ⟨World.ownsRow.kept h.r hg h.ru.ne, World.ownsRow.kept h.x hg h.xu.ne, hr, h.b.kept hg h.bu.ne, h.rx, (h.ru.symm.fr hf h.ltr).symm, (h.xu.symm.fr hf h.ltx).symm, h.br, h.bx, (h.bu.symm.fr hf h.ltb).symm,
    h.bel.grown hg h.bel.size (fun q hq => (World.ownsRow.lt h.u q hq).1)⟩
end

theorem cloneb_any (A : Option Addr) (c : Nat) (l : List Int) (w : World) (hl : l.length ≤ 1000000) (hA : (A = none ∧ c = 0 ∧ l = []) ∨ ∃ a, A = some a ∧ ∀ i, i < l.length → w.cell? (a.add i) = some (.int .u8 (l.getD i 0))) :
    Calls Try.prog 5 #[.slice A l.length c] w (RetO .u8 5 w l) := by
  rcases hA with ⟨rfl, rfl, rfl⟩ | ⟨a, rfl, hc⟩
  · exact cloneb_nil w
  · exact cloneb_calls a c l w hl hc

theorem fin26 {w12 wa w13 wb wx : World} {cv v' : Value} {l X : List Int} (hw : Below w12.heap.size w12 wa) (hB13 : Below wa.heap.size wa w13) (hown : w13.ownsRow wa.heap.size 3 1 cv l.length (l.map (Value.int .i64)))
    (hoi : OI wa.heap.size wx v' X) (hgx : wb.grownBy wx cv.ownBlock) (hwb : w13.grownBy wb cv.ownBlock) : OI w12.heap.size wx v' X ∧ Below w12.heap.size w12 wx :=
  ⟨own_base hoi fun q hq => Nat.le_trans hw.size (World.ownsRow.lt hoi q hq).1,
    (hw.trans (hB13.mono hw.size)).grown (hwb.trans hgx) (Nat.le_trans hw.size hB13.size) fun q hq => Nat.le_trans hw.size (World.ownsRow.lt hown q hq).1⟩

theorem enc_zero : enc 0 = [0] := by first | rfl | simp [enc, dig] | (unfold enc dig; simp)
theorem OB.append_g {ops : Array Oper} {rest : List Oper} {o : Oper} {a : Act} {Q : Exit → Act → World → Prop} {base : Nat} {w : World} (hgd : Region.wanted o (yielded ops a.tmps) = true) (s x : Operand)
    (ho : o.op = .call { callee := .builtin .append, args := #[s, x], argTypes := #[24, 24] })
    (v : Value) (xs : List Int) (hs : a.eval s = v) (hd : OB base w v xs) (c : Int) (T : TypeId)
    (hx : a.eval x = .slice (some ⟨w.heap.size, 0, none⟩) 1 1) (hlen : xs.length ≤ 1000000) (hb : base ≤ w.heap.size)
    (h : ∀ v' w', OB base w' v' (xs ++ [c]) → w.grownBy w' v.ownBlock → wpList Try.prog ops Q rest (a.put o.dst v') w') : wpList Try.prog ops Q (o :: rest) a (w.alloc (.cells #[.int .u8 c] T)) := by
  obtain ⟨i5, hi, hz0, hz1, hz2⟩ := info_parts info5
  refine wpList_step fun K hK => ?_
  rw [if_pos hgd]
  refine wp_append_own _ s x 24 ho base 5 i5 _ 1 1 Try.underlying24 hi hz0 hz1 hz2 rfl (by decide) v _ _ hs (World.ownsRow.alloc hd _) ⟨w.heap.size, 0, none⟩ 1 1 [.int .u8 c] hx rfl (new_cells _ _ _) (by simp [Value.oneCell']) (by unfold maxLen; omega) (by omega) (by simp; omega) ?_
  intro v' w' hd' hg _
  refine hK _ _ (h v' w' ?_ ((World.grownBy_alloc _ _ _).trans hg))
  unfold OB; simpa using hd'

theorem cl_of {Ab : Option Addr} {l9 : List Int} {w : World} (h : Ints w .u8 (.slice Ab l9.length l9.length) l9) : (Ab = none ∧ l9.length = 0 ∧ l9 = []) ∨ ∃ a, Ab = some a ∧ ∀ i, i < l9.length → w.cell? (a.add i) = some (.int .u8 (l9.getD i 0)) := by
  rcases h with ⟨h0, A1, c1, _⟩ | ⟨b1, o1, c1, e, hc1, hb1, h1⟩
  · cases Ab with
    | none => exact .inl ⟨rfl, by rw [h0]; rfl, h0⟩
    | some a => exact .inr ⟨a, rfl, fun i hi => by rw [h0] at hi; exact absurd hi (by simp)⟩
  · simp only [Value.slice.injEq] at e
    exact .inr ⟨_, e.1, fun i hi => by rw [add_none]; exact h1 i hi⟩
theorem ints_below {k : IntKind} {w w' : World} {v : Value} {l : List Int} (h : Ints w k v l) (hb : Below w.heap.size w w') : Ints w' k v l := by
  rcases h with ⟨h0, A1, c1, e⟩ | ⟨b1, o1, c1, e, hc1, hb1, h1⟩
  · exact .inl ⟨h0, A1, c1, e⟩
  · exact .inr ⟨b1, o1, c1, e, hc1, Nat.lt_of_lt_of_le hb1 hb.size, fun i hi => (hb.cell (p := ⟨b1, o1 + i, none⟩) hb1).trans (h1 i hi)⟩

attribute [local go_sem] max2_mx max_two min2_mn min_two in
set_option maxHeartbeats 4000000 in
set_option maxRecDepth 100000 in
theorem gaps_calls (first : Int) (st ah : List Int) (B A : Option Addr) (cs ca : Nat) (w : World) (hf0 : 0 ≤ first) (hf1 : first < 18446744073709551616) (hs : Ints w .u64 (.slice B st.length cs) st) (hsl : st.length ≤ cs) (hsm : cs ≤ maxLen)
    (hst : ∀ i, i < st.length → 0 ≤ st.getD i 0 ∧ st.getD i 0 < 18446744073709551616) (hal : ah.length ≤ ca) (ham : ca ≤ maxLen)
    (hA : (A = none ∧ ca = 0) ∨ ∃ a, A = some a ∧ ∀ i, i < ah.length → w.cell? (a.add i) = some (.int .u8 (ah.getD i 0))) :
    Calls Try.prog 3 #[.int .u64 first, .slice B st.length cs, .slice A ah.length ca] w fun e w' => e = .returned (.bool true) ∧ Below w.heap.size w w' := by
  obtain ⟨m, hm⟩ : ∃ m : Nat, mn st.length 40 = (m : Int) := ⟨min st.length 40, by rw [mn_def]; omega⟩
  have hm40 : m ≤ 40 := by rw [mn_def] at hm; omega
  have hmst : m ≤ st.length := by rw [mn_def] at hm; omega
  obtain ⟨k9, hk9⟩ : ∃ k : Nat, mn ah.length 9 = (k : Int) := ⟨min ah.length 9, by rw [mn_def]; omega⟩
  have hk9a : k9 ≤ ah.length := by rw [mn_def] at hk9; omega
  have hk9b : k9 ≤ 9 := by rw [mn_def] at hk9; omega
  obtain ⟨f0, hff⟩ : ∃ f0 : Nat, first % 36028797018963968 = (f0 : Int) := ⟨(first % 36028797018963968).toNat, by omega⟩
  have hf55 : f0 < 36028797018963968 := by omega
  have Hst := Lib.hid hst
  have Hf := Lib.hid hf55
  have Hs := Lib.hid hs
  clear hst hf55 hs hf1
  unfold maxLen at hsm ham
  go_enter Try.func3, Try.ntmps3
  go_wp2_with fail
  obtain ⟨l9, hl9⟩ : ∃ l9, Hid (l9 = ah.take k9) := ⟨_, rfl⟩
  have hk9e : k9 = l9.length := by rw [hl9.out, List.length_take]; omega
  rw [hk9e]
  have hw0 : Below w.heap.size w (w.alloc (.cells #[.int .i64 f0] 3)) := (Below.refl _ _).alloc (Nat.le_refl _) _
  refine (cloneb_any A ca l9 _ (by omega) ?_).mono ?_
  · rcases hA with ⟨h1, h2⟩ | ⟨a, h1, h2⟩
    · exact .inl ⟨h1, h2, List.eq_nil_of_length_eq_zero (by omega)⟩
    · refine .inr ⟨a, h1, fun i hi => ?_⟩
      have h3 := h2 i (by omega)
      rw [hw0.cell (World.block_lt_of_cell? w _ h3), h3, hl9.out, List.getD_eq_getElem?_getD, List.getD_eq_getElem?_getD, List.getElem?_take, if_pos (by omega)]
  rintro e w1 ⟨b0, rfl, hown1, hB1⟩
  have hOB1 : OB (w.heap.size + 1) w1 b0 l9 := by have := hown1; simp at this; exact this
  have hB1' : Below w.heap.size w w1 := hw0.trans (hB1.mono (by simp))
  have hs1 : w.heap.size + 1 ≤ w1.heap.size := by have := hB1.size; simpa using this
  have hrow1 : OI w.heap.size w1 (.slice (some ⟨w.heap.size, 0, none⟩) 1 1) [(f0 : Int)] := by
    have h0 : OI w.heap.size (w.alloc (.cells #[.int .i64 f0] 3)) (.slice (some ⟨w.heap.size, 0, none⟩) 1 1) [(f0 : Int)] :=
      World.ownsRow_lit w #[.int .i64 f0] 1 (Nat.le_refl _) (by unfold maxLen; omega) rfl
    exact World.ownsRow.kept h0 (row := none) (below_grown hB1) (.inr (by simp [Value.ownBlock]))
  obtain ⟨Ab, cb, rfl, hb1, hb2, hb3, hb4⟩ := hOB1.shape
  have hgeb : ∀ q, (Value.slice Ab l9.length l9.length).ownBlock = some q → w.heap.size + 1 ≤ q := fun q hq => by
    have e : (Value.slice Ab l9.length cb).ownBlock = (Value.slice Ab l9.length l9.length).ownBlock := by cases Ab <;> rfl
    exact (World.ownsRow.lt hOB1 q (e.trans hq)).1
  have hdb1 := hOB1.clip
  clear hown1 hB1 hOB1 hw0 hA
  go_wp2_with fail
  refine (clip_calls Ab l9.length cb w1 hb2 hb1 hb3 hb4).mono ?_
  rintro e w2 ⟨rfl, rfl⟩
  have hm1 : m + 1 < 2 ^ 62 := by rw [two62]; omega
  have Hm1 := Lib.hid hm1
  clear hm1 hb1 hb2 hb3 hb4
  generalize hbv : Value.slice Ab l9.length l9.length = bv at *
  have Hbv := Lib.hid hbv
  clear hbv
  go_wp2_with fail
  rw [show (1 : Int) + (m : Int) = ((m + 1 : Nat) : Int) by omega]
  refine (sevens_calls none bv l9 (m + 1) w1 hdb1 Hm1.out (by omega)).mono ?_
  rintro e w2 ⟨v1, rfl, hd2, ho2⟩
  have hB2 := grown_below (Below.refl w1.heap.size w1) hd2.1.gr (Nat.le_refl _)
  have hob2 := ho2.ob (N := w.heap.size) (fun q h => by cases h) hB1'.size
  have hge2 : ∀ q, v1.ownBlock = some q → w1.heap.size ≤ q := fun q hq => (ho2.fr (v0 := .slice none 0 0) (.inr rfl) q hq).resolve_left (by simp [Value.ownBlock])
  have hrow2 : OI w.heap.size w2 (.slice (some ⟨w.heap.size, 0, none⟩) 1 1) [(f0 : Int)] := World.ownsRow.kept hrow1 (row := none) hd2.1.gr (.inr (by simp [Value.ownBlock]))
  have hrc := hrow2.cellAt 0 (by omega)
  have hrc2 : w2.cell? ⟨w.heap.size, 0, none⟩ = some (.int .i64 (f0 : Int)) := hrc
  have hl9l : (enc (m + 1)).length ≤ 9 := by
    rw [enc_len]
    exact dig_len 9 (m + 1) (by have e2 : (128 : Nat) ^ 9 = 9223372036854775808 := by decide
                                omega) (by omega)
  have Hd3 := Lib.hid hob2.db
  go_wp2_with fail
  refine (sevens_calls _ v1 (l9 ++ enc (m + 1)) f0 w2 Hd3.out (by have := Hf.out; rw [two62]; omega) (by rw [List.length_append]; omega)).mono ?_
  rintro e w3 ⟨v2, rfl, hd3, ho3⟩
  have hg3 := hd3.1.gr
  have hob3 := ho3.ob (N := w.heap.size) (fun q hq => (World.ownsRow.lt hob2 q hq).1) (by have := hB2.size; omega)
  have hfr3 := ho3.fr (v0 := v1) (.inl rfl)
  have hne3 : ∀ q, q < w1.heap.size → some q ≠ v1.ownBlock := fun q hq e => by have := hge2 q e.symm; omega
  have hrow3 : OI w.heap.size w3 (.slice (some ⟨w.heap.size, 0, none⟩) 1 1) [(f0 : Int)] := World.ownsRow.kept hrow2 hg3 (.inr (by
    have := hne3 w.heap.size (by omega)
    simpa [Value.ownBlock] using this))
  have hrc3 : w3.cell? ⟨w.heap.size, 0, none⟩ = some (.int .i64 (f0 : Int)) := hrow3.cellAt 0 (by omega)
  clear hrc hrc2
  obtain ⟨gs, hgs⟩ : ∃ gs : Nat → Nat, Hid (gs = fun i => (st.getD i 0 % 36028797018963968).toNat) := ⟨_, rfl⟩
  have hgs55 : Hid (∀ i, gs i < 36028797018963968) := by intro i; rw [hgs.out]; show (st.getD i 0 % 36028797018963968).toNat < _; omega
  obtain ⟨L, HL⟩ : ∃ L, Hid (L = rowL f0 gs m) := ⟨_, rfl⟩
  have hLlen : Hid (L.length = m + 1) := by rw [HL.out]; exact rowL_len _ _ _
  have hLr : Hid (Rises L) := by rw [HL.out]; exact rowL_rises _ _ _ hm40 Hf.out hgs55.out
  have hL0 : Hid (L.getD 0 0 = f0) := by rw [HL.out, Hid, rowL_get _ _ _ _ (by omega)]; rfl
  have hLs : Hid (∀ i, i < m → L.getD (i + 1) 0 = L.getD i 0 + gs i + 1) := by
    intro i hi
    rw [HL.out, rowL_get _ _ _ _ (by omega), rowL_get _ _ _ _ (by omega)]; rfl
  have hLg : Hid (∀ i, i < m → gapOf L (i + 1) = gs i) := by
    intro i hi
    rw [HL.out, rowL_gap _ _ _ _ (by omega)]
  have hLg0 : Hid (gapOf L 0 = f0) := by rw [HL.out]; exact rowL_gap0 _ _ _
  have hLv : Hid (∀ i, i ≤ m → L.getD i 0 < 4611686018427387904) := by
    intro i hi
    have := hLr.out.1 i (by rw [hLlen.out]; omega)
    rw [two62] at this; exact this
  have hS : S5 w (w3.alloc (.cells #[.int .i64 f0, .int .i64 1] 28)) bv (.slice (some ⟨w.heap.size, 0, none⟩) 1 1) v2 (.slice (some ⟨w3.heap.size, 0, none⟩) 1 1) l9 (nz (L.take 1)) (l9 ++ (enc L.length ++ gapEnc L 1)) (runs L 1) := by
    have e1 : nz (L.take 1) = [(f0 : Int)] := by
      have := nz_take L 0 (by rw [hLlen.out]; omega)
      rw [this, hL0.out]; rfl
    have e2 : l9 ++ (enc L.length ++ gapEnc L 1) = l9 ++ enc (m + 1) ++ enc f0 := by
      rw [hLlen.out, gapEnc_succ, hLg0.out]
      simp [gapEnc]
    have e3 : runs L 1 = [((f0 : Int), 1)] := by
      rw [runs_new (by omega), hL0.out]; rfl
    have hs3 : w1.heap.size ≤ w3.heap.size := Nat.le_trans hB2.size hg3.size
    have hbel3 : Below w.heap.size w w3 := (hB1'.trans (hB2.mono (by omega))).grown hg3 (by have := hB2.size; omega) (fun q hq => by have := hge2 q hq; omega)
    have ha : Below w3.heap.size w3 (w3.alloc (.cells #[.int .i64 f0, .int .i64 1] 28)) := (Below.refl _ _).alloc (Nat.le_refl _) _
    have ne : ∀ v : Value, v.ownBlock = none ∨ v.ownBlock ≠ none := fun v => by cases e : v.ownBlock <;> simp
    have hba : w3.grownBy (w3.alloc (.cells #[.int .i64 f0, .int .i64 1] 28)) none := below_grown ha
    have hbn : bv.ownBlock = none ∨ bv.ownBlock ≠ v1.ownBlock := by
      cases e : bv.ownBlock with
      | none => exact .inl rfl
      | some q => exact .inr (fun e2 => hne3 q (hdb1.2 q e) e2)
    have hb3 : DB w3 w3 none bv l9 := by
      have h1 : DB w2 w2 none bv l9 := hdb1.kept hd2.1.gr (ne _)
      exact h1.kept hg3 hbn
    have hx3lt : Lt w3 v2 := fun q hq => (World.ownsRow.lt hob3 q hq).2
    have hx3ge : ∀ q, v2.ownBlock = some q → w1.heap.size ≤ q := fun q hq => by
      rcases hfr3 q hq with h | h
      · exact hge2 q h
      · have := hB2.size; omega
    have hu0 : ∀ q, (Value.slice (some ⟨w3.heap.size, 0, none⟩) 1 1).ownBlock = some q → w3.heap.size ≤ q := fun q hq => by simp [Value.ownBlock] at hq; omega
    have hr0 : ∀ q, (Value.slice (some ⟨w.heap.size, 0, none⟩) 1 1).ownBlock = some q → q = w.heap.size := fun q hq => by simp [Value.ownBlock] at hq; omega
    rw [e1, e2, e3]
    exact ⟨World.ownsRow.kept hrow3 hba (ne _), World.ownsRow.kept hob3 hba (ne _), World.ownsRow_lit w3 #[.int .i64 f0, .int .i64 1] 1 (by omega) (by unfold maxLen; omega) rfl, hb3.kept hba (ne _),
      (fun q h1 h2 => by have := hr0 q h1; have := hx3ge q h2; omega), (fun q h1 h2 => by have := hr0 q h1; have := hu0 q h2; omega), (fun q h1 h2 => by have := hx3lt q h1; have := hu0 q h2; omega),
      (fun q h1 h2 => by have := hgeb q h1; have := hr0 q h2; omega), (fun q h1 h2 => by have := hdb1.2 q h1; have := hx3ge q h2; omega), (fun q h1 h2 => by have := hdb1.2 q h1; have := hu0 q h2; omega),
      hbel3.trans (ha.mono (by omega))⟩
  have HS := Lib.hid hS
  clear hS hdb1 hd2 ho2 hob2 hge2 hrow2 hd3 ho3 hg3 hob3 hfr3 hne3 hrow3 hgeb hrow1 Hd3 hB2
  go_wp2
  go_loopw [7, 9, 10, 12, 13, 14, 54] (fun rv xv uv _ _ _ i wr => ∃ k : Nat, k ≤ m ∧ i = .int .i64 k ∧ Hid (S5 w wr bv rv xv uv l9 (nz (L.take (k + 1))) (l9 ++ (enc L.length ++ gapEnc L (k + 1))) (runs L (k + 1)))) (fun _ _ _ _ _ _ i _ => m - (intOf i).toNat)
  case atStart => exact ⟨0, by omega, rfl, HS⟩
  case round =>
    obtain ⟨k, hk, rfl, hS⟩ := hrel
    clear HS hrc3
    by_cases hlt : k < m
    · have hS0 := hS.out
      obtain ⟨bS, oS, hBe, hbS, hcS⟩ : ∃ bS oS, B = some ⟨bS, oS, none⟩ ∧ bS < w.heap.size ∧ w.cell? ⟨bS, oS + k, none⟩ = some (.int .u64 (st.getD k 0)) := by
        rcases Hs.out with ⟨h, _⟩ | ⟨bS, oS, c, h1, h2, h3, h4⟩
        · rw [h] at hmst; simp at hmst; omega
        · simp only [Value.slice.injEq] at h1
          exact ⟨bS, oS, h1.1, h3, h4 k (by omega)⟩
      subst hBe
      have hcS' := (hS0.bel.cell (p := ⟨bS, _, none⟩) hbS).trans hcS
      have hx := Hst.out k (by omega)
      have hgk : (st.getD k 0) % 36028797018963968 = (gs k : Int) := by rw [hgs.out]; show _ = (((st.getD k 0 % 36028797018963968).toNat : Nat) : Int); omega
      have hg55 := hgs55.out k
      have Hg55 := Lib.hid hg55
      generalize st.getD k 0 = xx at *
      obtain ⟨hx0, _⟩ := hx
      have hlen : (nz (L.take (k + 1))).length = k + 1 := by rw [nz_len, List.length_take, hLlen.out]; omega
      obtain ⟨bR, oR, cR, rfl, hcR, hbR, hcellR⟩ : ∃ bR oR cR, u7 = .slice (some ⟨bR, oR, none⟩) (k + 1) cR ∧ k + 1 ≤ cR ∧ bR < wr.heap.size ∧ wr.cell? ⟨bR, oR + k, none⟩ = some (.int .i64 (L.getD k 0 : Nat)) := by
        rcases hS0.r.ints with ⟨h, _⟩ | ⟨bR, oR, cR, h1, h2, h3, h4⟩
        · rw [h] at hlen; simp at hlen
        · rw [hlen] at h1 h2
          refine ⟨bR, oR, cR, h1, h2, h3, ?_⟩
          rw [h4 k (by omega), nz_get]
          congr 3
          rw [List.getD_eq_getElem?_getD, List.getElem?_take, if_pos (by omega), ← List.getD_eq_getElem?_getD]
      have hlk := hLv.out k (by omega)
      have hlk1 := hLv.out (k + 1) (by omega)
      have hs1 := hLs.out k hlt
      have hsum : ((L.getD k 0 : Nat) : Int) + (gs k : Int) + 1 = ((L.getD (k + 1) 0 : Nat) : Int) := by omega
      have h0 : 0 ≤ ((L.getD k 0 : Nat) : Int) := by omega
      have h1 : ((L.getD k 0 : Nat) : Int) < 4611686018427387904 := by omega
      have h2 : ((L.getD (k + 1) 0 : Nat) : Int) < 4611686018427387904 := by omega
      have hrun : gs k = 0 ↔ (0 < k + 1 ∧ L.getD (k + 1) 0 = L.getD (k + 1 - 1) 0 + 1) := by
        rw [Nat.add_sub_cancel]; omega
      have Hrun := Lib.hid hrun
      have Hntake := Lib.hid (nz_take L (k + 1) (by rw [hLlen.out]; omega))
      have Hgsucc := Lib.hid (gapEnc_succ L (k + 1))
      have Hgap := Lib.hid (hLg.out k hlt)
      have Hrnew := Lib.hid (fun h => runs_new (l := L) (k := k + 1) h)
      have Hrbump := Lib.hid (fun r p q h => runs_bump (l := L) (k := k + 1) (r := r) (p := p) (q := q) h)
      have Hrne := Lib.hid (runs_ne L k)
      have Hrlen := Lib.hid (runs_len L (k + 1))
      have hsub : ((k : Int) + 1) - 1 = (k : Int) := by omega
      generalize hLk1 : ((L.getD (k + 1) 0 : Nat) : Int) = y at *
      have HLk1 := Lib.hid hLk1
      generalize ((L.getD k 0 : Nat) : Int) = lk at *
      clear hLk1 hlk hlk1 hs1 hrun hg55 hcS hlen
      have hXl : (l9 ++ (enc L.length ++ gapEnc L (k + 1))).length ≤ 900000 := by
        have h3 := gapEnc_len L hLr.out (k + 1) (by rw [hLlen.out]; omega)
        have h4 := dig_len 9 L.length (by have e2 : (128 : Nat) ^ 9 = 9223372036854775808 := by decide
                                          rw [hLlen.out]; omega) (by omega)
        rw [List.length_append, List.length_append, enc_len]
        omega
      have Hdb := Lib.hid hS0.x.db
      clear hS0
      go_wp2_with fail
      refine (sevens_calls _ u9 _ (gs k) wr Hdb.out (by have := Hg55.out; rw [two62]; omega) hXl).mono ?_
      rintro e w4 ⟨v4, rfl, hd4, ho4⟩
      have hS1 := hS.out.upX (ho4.ob (fun q hq => (World.ownsRow.lt hS.out.x q hq).1) hS.out.bel.size) hd4.1.gr (ho4.fr (.inl rfl))
      have HS1 := Lib.hid hS1
      clear hS1 hd4 ho4
      have hXe : l9 ++ (enc L.length ++ gapEnc L (k + 1)) ++ enc (gs k) = l9 ++ (enc L.length ++ gapEnc L (k + 1 + 1)) := by
        rw [Hgsucc.out, Hgap.out]; simp only [List.append_assoc]
      have HXe := Lib.hid hXe
      clear hXe
      have hnzl : (nz (L.take (k + 1))).length ≤ 1000000 := by rw [nz_len, List.length_take]; omega
      by_cases hz : gs k = 0
      · obtain ⟨r, p, q, hrpq⟩ := Hrne.out
        have hb := Hrbump.out r p q hrpq (Hrun.out.1 hz)
        have Hb := Lib.hid hb
        have hU := HS1.out.u
        have HU1 := Lib.hid HS1.out
        rw [hrpq] at hU
        have hq := Hrlen.out.2 (p, q) (by rw [hrpq]; simp)
        obtain ⟨hq0, hq1⟩ := hq
        have hrl : r.length + 1 ≤ k + 1 := by have := Hrlen.out.1; rw [hrpq] at this; simpa using this
        obtain ⟨g, cap, rfl, hcap, hg1, hg2, hcq, hfq, hset⟩ := hU.open
        have Hset := Lib.hid hset
        have hzb : (((gs k : Nat) : Int) == 0) = true := by rw [hz]; rfl
        have hfst : (r.length : Int) + 1 - 1 = (r.length : Int) := by omega
        simp only at hq0 hq1
        clear hset hb hU hrpq hz
        go_wp2
        go_region
        have hS2 := (HU1.out.upU (Hset.out (q + 1)) (grown_set _ _ _ _) (fun q hq => .inl hq)).below ((Below.refl _ _).drew)
        rw [← Hb.out] at hS2
        generalize (w4.setCell ⟨g, r.length * 2 + 1, none⟩ (.int .i64 (q + 1))).drew = w5 at *
        have HS2 := Lib.hid hS2
        have hr2 := hS2.r
        have hbs := hS2.bel.size
        clear hS2
        go_wp2_with (at_builtin; refine OI.append2 rfl _ _ rfl _ _ rfl hr2 _ _ rfl hnzl hbs ?_)
        intro v' w6 hr6 hg6 hf6
        have hS6 := HS2.out.upR hr6 hg6 hf6
        have HS6 := Lib.hid hS6
        clear hS6
        go_wp2
        go_roundw
        case rel => exact ⟨k + 1, by omega, by go_num, by rw [Hid, ← HXe.out, Hntake.out]; exact HS6.out⟩
        case measure => simp [intOf]; omega
      · have hb := Hrnew.out (fun h => hz (Hrun.out.2 h))
        have Hb := Lib.hid hb
        have hu4 := HS1.out.u
        have hbs4 := HS1.out.bel.size
        have hzb : (((gs k : Nat) : Int) == 0) = false := by rw [beq_eq_false_iff_ne]; omega
        have hrl : (runs L (k + 1)).length ≤ 1000000 := by have := Hrlen.out.1; omega
        clear hb
        go_wp2_with (at_builtin; refine D2.append2 rfl _ _ rfl _ _ rfl hu4 _ _ _ rfl hrl hbs4 ?_)
        intro v5 w5 hu5 hg5 hf5
        have hS2 := HS1.out.upU hu5 hg5 hf5
        rw [← Hb.out] at hS2
        have HS2 := Lib.hid hS2
        have hr2 := hS2.r
        have hbs := hS2.bel.size
        clear hS2 hu5
        go_wp2_with (at_builtin; refine OI.append2 rfl _ _ rfl _ _ rfl hr2 _ _ rfl hnzl hbs ?_)
        intro v' w6 hr6 hg6 hf6
        have hS6 := HS2.out.upR hr6 hg6 hf6
        have HS6 := Lib.hid hS6
        clear hS6
        go_wp2
        go_roundw
        case rel => exact ⟨k + 1, by omega, by go_num, by rw [Hid, ← HXe.out, Hntake.out]; exact HS6.out⟩
        case measure => simp [intOf]; omega
    · obtain rfl : k = m := by omega
      have hS1 := hS.out
      rw [show L.take (k + 1) = L by rw [← hLlen.out, List.take_length], ← hLlen.out, show enc L.length ++ gapEnc L L.length = rowEnc L from rfl] at hS1
      have hXl : (l9 ++ rowEnc L).length ≤ 10000 := by
        have h3 := gapEnc_len L hLr.out L.length (Nat.le_refl _)
        have h4 := dig_len 9 L.length (by have e2 : (128 : Nat) ^ 9 = 9223372036854775808 := by decide
                                          rw [hLlen.out]; omega) (by omega)
        have := hLlen.out
        rw [rowEnc, List.length_append, List.length_append, enc_len]
        omega
      have hL41 : L.length ≤ 41 := by rw [hLlen.out]; omega
      have hLpos : 0 < L.length := by rw [hLlen.out]; omega
      obtain ⟨bR, oR, cR, rfl, hcR, hbR, hcellR⟩ : ∃ bR oR cR, u7 = .slice (some ⟨bR, oR, none⟩) L.length cR ∧ L.length ≤ cR ∧ bR < wr.heap.size ∧ ∀ i, i < L.length → wr.cell? ⟨bR, oR + i, none⟩ = some (.int .i64 (L.getD i 0 : Nat)) := by
        rcases hS1.r.ints with ⟨h, _⟩ | ⟨bR, oR, cR, h1, h2, h3, h4⟩
        · have := congrArg List.length h; rw [nz_len, List.length_nil] at this; omega
        · rw [nz_len] at h1 h2 h4
          exact ⟨bR, oR, cR, h1, h2, h3, fun i hi => by rw [h4 i hi, nz_get]⟩
      obtain ⟨gw, ow, cw, rfl, hcw, hgw, hcellW⟩ : ∃ gw ow cw, u9 = .slice (some ⟨gw, ow, none⟩) (l9 ++ rowEnc L).length cw ∧ (l9 ++ rowEnc L).length ≤ cw ∧ gw < wr.heap.size ∧ ∀ i, i < (l9 ++ rowEnc L).length → wr.cell? ⟨gw, ow + i, none⟩ = some (.int .u8 ((l9 ++ rowEnc L).getD i 0)) := by
        rcases hS1.x.db.ints with ⟨h, _⟩ | ⟨bR, oR, cR, h1, h2, h3, h4⟩
        · have := congrArg List.length h
          have h5 := enc_pos L.length
          rw [rowEnc, List.length_append, List.length_append, List.length_nil] at this
          omega
        · exact ⟨bR, oR, cR, h1, h2, h3, h4⟩
      have HcellR := Lib.hid hcellR
      have HcellW := Lib.hid hcellW
      have HS1 := Lib.hid hS1
      obtain ⟨X, hX⟩ : ∃ X, Hid (X = l9 ++ rowEnc L) := ⟨_, rfl⟩
      rw [← hX.out] at hXl hcw HcellW HS1 ⊢
      clear hcellR hcellW hS1 hS Hst
      go_wp2_with fail
      refine (gput_calls none bv l9 L bR oR cR wr HS1.out.b (by omega) hLr.out (by omega) hbR (by simp) HcellR.out).mono ?_
      rintro e w2 ⟨gv, rfl, hgot⟩
      rw [← hX.out] at hgot
      have hB2 := grown_below (Below.refl wr.heap.size wr) hgot.1.gr (Nat.le_refl _)
      have HS2 := Lib.hid (HS1.out.below hB2)
      have hgi := Lib.hid hgot.ints
      clear hgot
      go_wp2_with fail
      refine (eqb_calls X gv _ w2 hgi.out HS2.out.x.db.ints (by omega)).mono ?_
      rintro e w3 ⟨rfl, hB3⟩
      have HS3 := Lib.hid (HS2.out.below hB3)
      have hB13 := hB2.trans (hB3.mono hB2.size)
      have hbR3 : bR < w3.heap.size := Nat.lt_of_lt_of_le hbR hB13.size
      have HcR3 := Lib.hid (fun i (hi : i < L.length) => (hB13.cell (p := ⟨bR, oR + i, none⟩) hbR).trans (HcellR.out i hi))
      go_wp2_with fail
      refine (size_ok L bR oR cR w3 hLr.out (by omega) hbR3 HcR3.out).mono ?_
      rintro e w4 ⟨rfl, hB4⟩
      have HS4 := Lib.hid (HS3.out.below hB4)
      have hB14 := hB13.trans (hB4.mono hB13.size)
      have hbv := Hbv.out
      subst hbv
      have hsz : ((X.length : Nat) : Int) - ((l9.length : Nat) : Int) = ((rowEnc L).length : Int) := by rw [hX.out, List.length_append]; omega
      have hbR4 : bR < w4.heap.size := Nat.lt_of_lt_of_le hbR hB14.size
      have HcR4 := Lib.hid (fun i (hi : i < L.length) => (hB14.cell (p := ⟨bR, oR + i, none⟩) hbR).trans (HcellR.out i hi))
      go_wp2_with fail
      refine (runs_calls L bR oR cR w4 hLr.out (by omega) hbR4 HcR4.out).mono ?_
      rintro e w5 ⟨rv, rfl, hrv, hB5⟩
      have HS5 := Lib.hid (HS4.out.below hB5)
      have hB15 := hB14.trans (hB5.mono hB14.size)
      have hrvl : (runs L L.length).length ≤ 1000000 := by have := (runs_len L L.length).1; omega
      have Hrv := Lib.hid hrv.duos
      clear hrv
      go_wp2_with fail
      refine (eqp_calls _ rv _ w5 Hrv.out HS5.out.u.duos hrvl).mono ?_
      rintro e w6 ⟨rfl, hB6⟩
      have HS6 := Lib.hid (HS5.out.below hB6)
      have hB16 := hB15.trans (hB6.mono hB15.size)
      clear hB2 hB3 hB13 hB4 hB14 hB5 hB15 hB6 HS2 HS3 HS4 HS5 HcR3 HcR4 hbR3 hbR4 hsz
      have hBlen : 0 < (rowEnc L).length := by have := enc_pos L.length; rw [rowEnc, List.length_append]; omega
      have hsub9 : X.length - l9.length = (rowEnc L).length := by rw [hX.out, List.length_append]; omega
      have hlX : l9.length ≤ X.length := by omega
      have hltc : l9.length < cw := by omega
      have hnec : ¬ cw = l9.length := by omega
      have hnec2 : ¬ l9.length = cw := by omega
      go_wp2_with fail
      refine (new_calls _ w6 _ _ _ rfl).mono ?_
      rintro e w7 ⟨rfl, hrd7, hB7⟩
      have hgw6 : gw < w6.heap.size := Nat.lt_of_lt_of_le hgw hB16.size
      have hW7 : ∀ i, i < X.length → w7.cell? ⟨gw, ow + i, none⟩ = some (.int .u8 (X.getD i 0)) := fun i hi => (hB7.cell (p := ⟨gw, ow + i, none⟩) hgw6).trans ((hB16.cell (p := ⟨gw, ow + i, none⟩) hgw).trans (HcellW.out i hi))
      have hby : Bys w7 gw (ow + l9.length) (rowEnc L) := fun i hi => by
        have := hW7 (l9.length + i) (by omega)
        rw [show ow + l9.length + i = ow + (l9.length + i) by omega, this, hX.out]
        congr 2
        rw [List.getD_eq_getElem?_getD, List.getElem?_append_right (by omega), Nat.add_sub_cancel_left, List.getD_eq_getElem?_getD]
      have HW7 := Lib.hid hW7
      have Hby := Lib.hid hby
      have Hrd7 := Lib.hid hrd7
      clear hW7 hby hrd7
      go_wp2_with fail
      refine (get_ok w6.heap.size gw (ow + l9.length) (cw - l9.length) L (rowEnc L) w7 rfl Hrd7.out Hby.out (by omega) (by have := hB7.size; omega) hLr.out hLpos (by omega)).mono ?_
      rintro e w8 ⟨gv8, rfl, hoi8, hrd8, hg8⟩
      have hB68 : Below w6.heap.size w6 w8 := hB7.grown hg8 hB7.size (fun q hq => by cases hq; exact Nat.le_refl _)
      have HS8 := Lib.hid (HS6.out.below hB68)
      have hB18 := hB16.trans (hB68.mono hB16.size)
      have Hoi8 := Lib.hid hoi8.ints
      have Hrd8 := Lib.hid hrd8
      clear hoi8 hrd8
      go_wp2_with fail
      refine (eqi_calls (nz L) gv8 _ w8 Hoi8.out HS8.out.r.ints (by rw [nz_len]; omega)).mono ?_
      rintro e w9 ⟨rfl, hB9⟩
      have HS9 := Lib.hid (HS8.out.below hB9)
      have hB19 := hB18.trans (hB9.mono hB18.size)
      have Hrd9 := Lib.hid (Hrd8.out.kept (below_grown (row := none) hB9) (by simp))
      have hBl6 : (rowEnc L).length ≤ 1000000 := by omega
      go_wp2_with fail
      refine (end_calls w6.heap.size _ _ _ _ w9 Hrd9.out rfl hBl6).mono ?_
      rintro e w10 ⟨rfl, kd, rfl⟩
      have HS10 := Lib.hid (HS9.out.below (below_drewN (Below.refl _ _) kd))
      have hB110 := below_drewN hB19 kd
      obtain ⟨x1, hx1⟩ : ∃ x1 : Nat, (X.length : Int) - 1 = (x1 : Int) := ⟨X.length - 1, by omega⟩
      have hlx1 : l9.length ≤ x1 := by omega
      have hx1c : x1 ≤ cw := by omega
      have hsub1 : x1 - l9.length = (rowEnc L).dropLast.length := by rw [List.length_dropLast]; omega
      clear HS6 HS8 HS9 hB7 hB68 hB9 hg8 Hoi8 Hrd7 Hrd8 Hrd9 Hby HW7 hgw6 hB16 hB18
      generalize w9.drewN kd = wz at *
      go_wp2_with fail
      rw [show (rowEnc L).length - 1 = (rowEnc L).dropLast.length from (List.length_dropLast).symm]
      refine (new_calls _ wz _ _ _ rfl).mono ?_
      rintro e w11 ⟨rfl, hrd11, hB11⟩
      have hgwz : gw < wz.heap.size := Nat.lt_of_lt_of_le hgw hB110.size
      have hby : Bys w11 gw (ow + l9.length) (rowEnc L).dropLast := fun i hi => by
        rw [List.length_dropLast] at hi
        have := (hB11.cell (p := ⟨gw, ow + (l9.length + i), none⟩) hgwz).trans ((hB110.cell (p := ⟨gw, ow + (l9.length + i), none⟩) hgw).trans (HcellW.out (l9.length + i) (by omega)))
        rw [show ow + l9.length + i = ow + (l9.length + i) by omega, this, hX.out]
        congr 2
        rw [List.getD_eq_getElem?_getD, List.getElem?_append_right (by omega), Nat.add_sub_cancel_left, List.getD_eq_getElem?_getD, List.getElem?_dropLast, if_pos hi]
      have Hby := Lib.hid hby
      have Hrd11 := Lib.hid hrd11
      clear hby hrd11
      go_wp2_with fail
      refine (get_short wz.heap.size gw (ow + l9.length) (cw - l9.length) L (rowEnc L).dropLast w11 rfl Hrd11.out Hby.out (by omega) (by have := hB11.size; omega) hLr.out hLpos (by omega)).mono ?_
      rintro e w12 ⟨rfl, ⟨pa, hrd12⟩, hg12⟩
      have hBz12 : Below wz.heap.size wz w12 := hB11.grown hg12 hB11.size (fun q hq => by cases hq; exact Nat.le_refl _)
      have HS12 := Lib.hid (HS10.out.below hBz12)
      have hB112 := hB110.trans (hBz12.mono hB110.size)
      have Hrd12 := Lib.hid hrd12
      clear hrd12 hBz12 hB11 hg12 Hrd11 Hby hB110 HS10
      go_wp2_with fail
      refine (why_calls wz.heap.size _ pa 30 w12 Hrd12.out).mono ?_
      rintro e w13 ⟨rfl, rfl⟩
      obtain ⟨j, hj⟩ : ∃ j : Nat, (L.length : Int) - 1 = (j : Int) := ⟨L.length - 1, by omega⟩
      have hjl : j < L.length := by omega
      have hrow12 : ∀ i, i < (nz L).length → w12.cell? ((⟨bR, oR, none⟩ : Addr).add i) = some (.int .i64 ((nz L).getD i 0)) := fun i hi => by
        rw [nz_len] at hi
        rw [add_none, nz_get]
        exact (hB112.cell (p := ⟨bR, oR + i, none⟩) hbR).trans (HcellR.out i hi)
      have Hrow12 := Lib.hid hrow12
      have hcj : w12.cell? ⟨bR, oR + j, none⟩ = some (.int .i64 (L.getD j 0 : Nat)) := (hB112.cell (p := ⟨bR, oR + j, none⟩) hbR).trans (HcellR.out j hjl)
      obtain ⟨z, hz⟩ : ∃ z : Int, Hid (((L.getD j 0 : Nat) : Int) = z) := ⟨_, rfl⟩
      rw [hz.out] at hcj
      have hbR12 : bR < w12.heap.size := Nat.lt_of_lt_of_le hbR hB112.size
      have hnl : (nz L).length = L.length := nz_len L
      have Hnl := Lib.hid hnl
      have hwj : IntKind.i64.wrap (j : Int) = (j : Int) := wraps_i64 _ (by omega) (by rw [show (2 : Int) ^ 63 = 9223372036854775808 by decide]; omega)
      have hjI : (j : Int) < (L.length : Int) := by omega
      have hj0 : 0 ≤ (j : Int) := by omega
      clear hrow12 hnl
      go_wp2_with fail
      go_cut [18] (fun bd wx => OI w12.heap.size wx bd (nz L ++ [z]) ∧ Below w12.heap.size w12 wx)
      case first =>
        first | (clear hf0) | skip
        try clear hsl
        try clear hsm
        try clear hal
        try clear ham
        try clear hm
        try clear hm40
        try clear hmst
        try clear hk9
        try clear hk9a
        try clear hk9b
        try clear hff
        try clear Hf
        try clear Hs
        try clear hl9
        try clear hk9e
        try clear hB1'
        try clear hs1
        try clear Hm1
        try clear Hbv
        try clear hl9l
        try clear hgs
        try clear hgs55
        try clear HL
        try clear hLlen
        try clear hLr
        try clear hL0
        try clear hLs
        try clear hLg
        try clear hLg0
        try clear hLv
        try clear hXl
        try clear hLpos
        try clear hcR
        try clear hbR
        try clear hcw
        try clear hgw
        try clear HcellR
        try clear HcellW
        try clear HS1
        try clear hX
        try clear hgi
        try clear Hrv
        try clear hrvl
        try clear hsub9
        try clear hlX
        try clear hltc
        try clear hnec
        try clear hnec2
        try clear hBlen
        try clear hx1
        try clear hlx1
        try clear hx1c
        try clear hsub1
        try clear HS12
        try clear hB112
        try clear Hrd12
        try clear hgwz
        try clear hBl6
        try clear hjl
        try clear hz
        go_region_law (first | (refine OI.step rfl _ _ rfl _ (nz L) rfl hown13 z ⟨w12.heap.size, 0, none⟩ rfl hz13 (by rw [Hnl.out]; omega) hs13 ?_; intro v' wx hoi hgx) | (refine OI.step rfl _ _ rfl _ (nz L) rfl (World.ownsRow.alloc hown13 _) z ⟨w13.heap.size, 0, none⟩ rfl (new_cell0 _ _ _) (by rw [Hnl.out]; omega) (Nat.le_trans hs13 (World.grownBy_alloc _ _ none).size) ?_; intro v' wx hoi hgx) | (go_simp; go_at_call 17; refine (clonei_n ⟨bR, oR, none⟩ cR (nz L) L.length _ Hnl.out.symm (by rw [Hnl.out]; omega) (by intro i hi; exact cell_later (by first | exact (Below.refl _ _).drew | exact ((Below.refl _ _).alloc (Nat.le_refl _) _).drew) (Hrow12.out i hi))).mono ?_; rintro e w13 ⟨cv, rfl, hown13, hB13⟩; have hcj13 : w13.cell? ⟨bR, oR + j, none⟩ = some (.int .i64 z) := (hB13.cell (p := ⟨bR, oR + j, none⟩) (by first | exact hbR12 | (simp; omega))).trans (cell_later (by first | exact (Below.refl w12.heap.size w12).drew | exact ((Below.refl w12.heap.size w12).alloc (Nat.le_refl _) _).drew) hcj); have hs13 := hB13.size; try have hz13 := cell_of_box w12 z 3 w13 hB13))
        all_goals
          go_wp2_with fail
          go_meet
          first
            | exact fin26 (Below.refl _ _).drew hB13 hown13 hoi hgx (grown_refl _ _)
            | exact fin26 (Below.refl _ _).drew hB13 hown13 hoi hgx (World.grownBy_alloc _ _ _)
            | exact fin26 ((Below.refl _ _).alloc (Nat.le_refl _) _).drew hB13 hown13 hoi hgx (grown_refl _ _)
            | exact fin26 ((Below.refl _ _).alloc (Nat.le_refl _) _).drew hB13 hown13 hoi hgx (World.grownBy_alloc _ _ _)
      case rest =>
        obtain ⟨hoi, hBc⟩ := hcut
        have HSc := Lib.hid (HS12.out.below hBc)
        obtain ⟨bd, od, cd, rfl, hcd, hbd, hcellD⟩ : ∃ bd od cd, u18 = .slice (some ⟨bd, od, none⟩) (L.length + 1) cd ∧ L.length + 1 ≤ cd ∧ bd < wc.heap.size ∧ ∀ i, i < L.length + 1 → wc.cell? ⟨bd, od + i, none⟩ = some (.int .i64 ((nz L ++ [z]).getD i 0)) := by
          have hl1 : (nz L ++ [z]).length = L.length + 1 := by rw [List.length_append, nz_len]; rfl
          rcases hoi.ints with ⟨h, _⟩ | ⟨bR, oR, cR, h1, h2, h3, h4⟩
          · rw [h] at hl1; simp at hl1
          · rw [hl1] at h1 h2 h4
            exact ⟨bR, oR, cR, h1, h2, h3, h4⟩
        have hcD : ∀ i, i < L.length → wc.cell? ⟨bd, od + i, none⟩ = some (.int .i64 (L.getD i 0 : Nat)) := fun i hi => by
          rw [hcellD i (by omega), List.getD_eq_getElem?_getD, List.getElem?_append_left (by rw [nz_len]; exact hi), ← List.getD_eq_getElem?_getD, nz_get]
        have hcZ : wc.cell? ⟨bd, od + L.length, none⟩ = some (.int .i64 ((L.getD (L.length - 1) 0 : Nat) : Int)) := by
          rw [hcellD L.length (by omega), List.getD_eq_getElem?_getD, List.getElem?_append_right (by rw [nz_len]; omega), nz_len, Nat.sub_self, ← hz.out]
          have : L.length - 1 = j := by omega
          rw [this]; rfl
        have HcD := Lib.hid hcD
        have HcZ := Lib.hid hcZ
        clear hcD hcZ hcellD hoi
        go_wp2_with fail
        refine (gput_bad _ L _ bd od cd wc hLr.out hLpos (by omega) rfl HcD.out HcZ.out hcd).mono ?_
        rintro e w14 ⟨rfl, rfl⟩
        go_wp2_with fail
        refine (gput_nil none _ l9 none 0 wc HSc.out.b (by omega)).mono ?_
        rintro e w15 ⟨v15, rfl, hd15⟩
        have hB15 := grown_below (Below.refl wc.heap.size wc) hd15.1.gr (Nat.le_refl _)
        have HS15 := Lib.hid (HSc.out.below hB15)
        have Hd15 := Lib.hid hd15.ints
        have hbd15 : bd < w15.heap.size := Nat.lt_of_lt_of_le hbd hB15.size
        clear hd15
        go_wp2_with fail
        refine (eqb_calls l9 _ _ w15 HS15.out.b.ints HS15.out.b.ints (by omega)).mono ?_
        rintro e w16 ⟨rfl, hB16⟩
        have HS16 := Lib.hid (HS15.out.below hB16)
        have Hd16 := Lib.hid (ints_below Hd15.out hB16)
        have hBc6 := hB15.trans (hB16.mono hB15.size)
        have HcD6 := Lib.hid (fun i (hi : i < L.length) => (hBc6.cell (p := ⟨bd, od + i, none⟩) hbd).trans (HcD.out i hi))
        have HcZ6 := Lib.hid ((hBc6.cell (p := ⟨bd, od + L.length, none⟩) hbd).trans HcZ.out)
        go_wp2_with fail
        refine (size_bad L _ bd od cd w16 hLr.out hLpos (by omega) rfl HcD6.out HcZ6.out hcd).mono ?_
        rintro e w17 ⟨rfl, rfl⟩
        go_wp2_with fail
        refine (cloneb_any Ab l9.length l9 w16 (by omega) (cl_of HS16.out.b.ints)).mono ?_
        rintro e w18 ⟨cv, rfl, hown18, hB18⟩
        have hob18 : OB w16.heap.size w18 cv l9 := hown18
        have Hd18 := Lib.hid (ints_below Hd16.out hB18)
        have hl9m : l9.length ≤ 1000000 := by omega
        clear hown18
        go_wp2_with (at_builtin; refine OB.append_g rfl _ _ rfl cv _ rfl hob18 _ _ rfl hl9m hB18.size ?_)
        intro v19 w19 hob19 hg19
        have hB19' : Below w16.heap.size w16 w19 := hB18.grown hg19 hB18.size (fun q hq => (World.ownsRow.lt hob18 q hq).1)
        have Hd19 := Lib.hid (ints_below Hd16.out hB19')
        rw [enc_zero] at Hd19
        have Hi19 := Lib.hid hob19.db.ints
        go_wp2_with fail
        refine (eqb_calls (l9 ++ [0]) _ _ w19 Hd19.out Hi19.out (by rw [List.length_append]; simp; omega)).mono ?_
        rintro e w20 ⟨rfl, hB20⟩
        have hall : Below w.heap.size w w20 := by
          have h1 := HS16.out.bel
          have h2 := h1.trans (hB19'.mono h1.size)
          exact h2.trans (hB20.mono h2.size)
        go_wp2_with fail
        go_ret
        exact ⟨rfl, hall⟩
end Go.Proofs.Ytegajejaadkkiab
