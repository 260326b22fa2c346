import Derived.Test.YtegajejaadkkiabH
namespace Go.Proofs.Ytegajejaadkkiab
open Go.RowKit

/-- a row of ints of the call's own. -/
def OI (base : Nat) (w : World) (v : Value) (xs : List Int) : Prop := w.ownsRow base 3 1 v xs.length (xs.map (Value.int .i64))

theorem OI.append {ops : Array Oper} {rest : List Oper} {o : Oper} {a : Act} {Q : Exit → Act → World → Prop} {base : Nat} {w : World} (hgd : o.guard = none) (s x : Operand)
    (ho : o.op = .call { callee := .builtin .append, args := #[s, x], argTypes := #[25, 25] })
    (v : Value) (xs : List Int) (hs : a.eval s = v) (hd : OI base w v xs) (c : Int) (T : TypeId)
    (hx : a.eval x = .slice (some ⟨w.heap.size, 0, none⟩) 1 1) (hlen : xs.length ≤ 1000000) (hb : base ≤ w.heap.size)
    (h : ∀ v' w', OI base w' v' (xs ++ [c]) → w.grownBy w' v.ownBlock → wpList Try.prog ops Q rest (a.put o.dst v') w') : wpList Try.prog ops Q (o :: rest) a (w.alloc (.cells #[.int .i64 c] T)) := by
  obtain ⟨i5, hi, hz0, hz1, hz2⟩ := info_parts info3
  refine wpList_append_own _ hgd s x 25 ho base 3 i5 _ 1 8 Try.underlying25 hi hz0 hz1 hz2 rfl (by decide) v _ _ hs (World.ownsRow.alloc hd _) ⟨w.heap.size, 0, none⟩ 1 1 [.int .i64 c] hx rfl (new_cells _ _ _) (by simp [Value.oneCell']) (by unfold maxLen; omega) (by omega) (by simp; omega) ?_
  intro v' w' hd' hg _
  refine h v' w' ?_ ((World.grownBy_alloc _ _ _).trans hg)
  unfold OI; simpa using hd'

theorem OI.shape {base : Nat} {w : World} {v : Value} {l : List Int} (h : OI base w v l) : ∃ A c, v = .slice A l.length c := by
  rcases h.2 with ⟨rfl, h0⟩ | ⟨g, cap, cur, rfl, _⟩
  · rw [h0]; exact ⟨_, _, rfl⟩
  · exact ⟨_, _, rfl⟩
theorem OI.kept {base : Nat} {w w1 : World} {v : Value} {l : List Int} {row : Option Nat} (h : OI base w v l) (hg : w.grownBy w1 row) (hr : ∀ q, row = some q → q < base) : OI base w1 v l :=
  World.ownsRow.kept h hg (by
    cases e : v.ownBlock with
    | none => exact .inl rfl
    | some q => exact .inr (fun h2 => by have := hr q h2.symm; have := World.ownsRow.lt h q e; omega))
theorem OI.ints {base : Nat} {w : World} {v : Value} {l : List Int} (h : OI base w v l) : Ints w .i64 v l := by
  rcases h.2 with ⟨rfl, h0⟩ | ⟨g, cap, cur, rfl, hb, hg, hn, _⟩
  · exact .inl ⟨List.eq_nil_of_length_eq_zero h0, _, _, rfl⟩
  · refine .inr ⟨g, 0, cap, rfl, hn, (Array.getElem?_eq_some_iff.1 hg).1, fun i hi => ?_⟩
    have h0 := h.cellAt i (by omega)
    rw [getD_nums .i64 l i hi] at h0
    rw [Nat.zero_add]; exact h0

set_option maxHeartbeats 400000 in
theorem count_ok (g b off c m : Nat) (B rest : List Int) (w : World) (h : RD w g (.slice (some ⟨b, off, none⟩) B.length c) 0 0) (hB : Bys w b off B) (hgb : b ≠ g) (hm : m ≤ 4096) (hp : B = enc m ++ rest) (hl : B.length ≤ 1000000) :
    Calls Try.prog 19 #[.pointer (some ⟨g, 0, none⟩), .int .i64 4096] w (RetR w g (.slice (some ⟨b, off, none⟩) B.length c) m ((enc m).length : Nat) 0) := by
  have c1 := h.c1
  have HR := Lib.hid h
  clear h
  have HP := Lib.hid hp
  clear hp
  have HB := Lib.hid hB
  clear hB
  go_enter Try.func19, Try.ntmps19
  go_wp2_with fail
  refine (num_ok g b off c m 0 B rest w HR.out HB.out hgb (by rw [two62]; omega) (by rw [List.drop_zero]; exact HP.out) hl).mono ?_
  rintro e w1 ⟨rfl, h1, hg1⟩
  have c2 := h1.c2
  have H1 := Lib.hid h1
  clear h1 c1
  go_wp2
  go_ret
  exact ⟨rfl, by simpa using H1.out, hg1⟩

theorem gapEnc_split (l : List Nat) (k : Nat) (hk : k < l.length) : gapEnc l l.length = gapEnc l k ++ (enc (gapOf l k) ++ (List.range' (k + 1) (l.length - (k + 1))).flatMap fun i => enc (gapOf l i)) := by
  have e : List.range l.length = List.range k ++ (k :: List.range' (k + 1) (l.length - (k + 1))) := by
    rw [List.range_eq_range', List.range_eq_range', show l.length = k + ((l.length - (k + 1)) + 1) by omega]
    rw [← List.range'_append]
    congr 1
    rw [List.range'_succ]
    simp
    omega
  unfold gapEnc
  rw [e, List.flatMap_append, List.flatMap_cons]
end Go.Proofs.Ytegajejaadkkiab
