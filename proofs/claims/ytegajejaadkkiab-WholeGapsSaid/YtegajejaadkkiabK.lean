import Derived.Test.YtegajejaadkkiabJ
namespace Go.Proofs.Ytegajejaadkkiab
open Go.RowKit

def RetS (w : World) (g : Nat) (v : Value) (e : Ending) (w' : World) : Prop := e = .returned (.slice none 0 0) ∧ (∃ a, RD w' g v a 30) ∧ w.grownBy w' (some g)

theorem dropLast_app (xs ys : List Int) (h : ys ≠ []) : (xs ++ ys).dropLast = xs ++ ys.dropLast := List.dropLast_append_of_ne_nil h

theorem gapEnc_ne (l : List Nat) (hl0 : 0 < l.length) : gapEnc l l.length ≠ [] := by
  rw [gapEnc_split l 0 hl0]
  intro e
  have h1 := enc_pos (gapOf l 0)
  rw [(List.append_eq_nil_iff.1 (List.append_eq_nil_iff.1 e).2).1] at h1
  simp at h1

theorem short_count (l : List Nat) (hl0 : 0 < l.length) : ∃ rest, (rowEnc l).dropLast = enc l.length ++ rest :=
  ⟨_, dropLast_app _ _ (gapEnc_ne l hl0)⟩

theorem posOf_le (l : List Nat) (k : Nat) (hk : k < l.length) : posOf l k < (rowEnc l).length := by
  obtain ⟨rest, h, _⟩ := rowEnc_drop l k hk
  have := congrArg List.length h
  rw [List.length_drop, List.length_append] at this
  have := enc_pos (gapOf l k)
  omega

theorem drop_dropLast (B : List Int) (p : Nat) (_h : p < B.length) : B.dropLast.drop p = (B.drop p).dropLast := by
  rw [List.dropLast_eq_take, List.dropLast_eq_take, List.drop_take, List.length_drop]
  congr 1
  omega

theorem short_drop (l : List Nat) (k : Nat) (hk : k + 1 < l.length) : ∃ rest, (rowEnc l).dropLast.drop (posOf l k) = enc (gapOf l k) ++ rest := by
  obtain ⟨rest, h, hne, _⟩ := rowEnc_drop l k (by omega)
  refine ⟨rest.dropLast, ?_⟩
  rw [drop_dropLast _ _ (posOf_le l k (by omega)), h, dropLast_app _ _ (hne hk)]

theorem short_last (l : List Nat) (k : Nat) (hk : k + 1 = l.length) : (rowEnc l).dropLast.drop (posOf l k) = (enc (gapOf l k)).take ((dig (gapOf l k)).length - 1) := by
  obtain ⟨rest, h, _, he⟩ := rowEnc_drop l k (by omega)
  rw [drop_dropLast _ _ (posOf_le l k (by omega)), h, he hk, List.append_nil, List.dropLast_eq_take, enc_len]

set_option maxHeartbeats 1000000 in
set_option maxRecDepth 100000 in
theorem get_short (g b off c : Nat) (l : List Nat) (B : List Int) (w : World) (hBe : B = (rowEnc l).dropLast) (h : RD w g (.slice (some ⟨b, off, none⟩) B.length c) 0 0) (hB : Bys w b off B) (hgb : b ≠ g) (hbl : b < w.heap.size) (hl : Rises l) (hl0 : 0 < l.length) (hl1 : l.length ≤ 4000) :
    Calls Try.prog 14 #[.pointer (some ⟨g, 0, none⟩)] w (RetS w g (.slice (some ⟨b, off, none⟩) B.length c)) := by
  have hBl : B.length ≤ 1000000 := by
    rw [hBe, List.length_dropLast, rowEnc, List.length_append]
    have h1 := gapEnc_len l hl l.length (Nat.le_refl _)
    have h2 := dig_len 9 l.length (by have e2 : (128 : Nat) ^ 9 = 9223372036854775808 := by decide
                                      omega) (by omega)
    rw [enc_len]; omega
  have HR := Lib.hid h
  have HB := Lib.hid hB
  have HBe := Lib.hid hBe
  have Hl := Lib.hid hl
  clear h hB hBe hl
  go_enter Try.func14, Try.ntmps14
  go_wp2_with fail
  obtain ⟨rest0, hrest0⟩ := short_count l hl0
  refine (count_ok g b off c l.length B rest0 w HR.out HB.out hgb (by omega) (by rw [HBe.out, hrest0]) hBl).mono ?_
  rintro e w1 ⟨rfl, h1, hg1⟩
  have H1 := Lib.hid h1
  have hw1 := hg1.size
  clear h1
  go_wp2
  go_loopw [2, 3, 4, 5, 8] (fun _ ov lv _ i wr => ∃ k : Nat, k < l.length ∧ i = .int .i64 k ∧ (∃ R, OI w.heap.size wr ov R ∧ Hid (R = nz (l.take k))) ∧ (∃ x : Int, lv = .int .i64 x ∧ Hid (x = lastOf l k)) ∧ RD wr g (.slice (some ⟨b, off, none⟩) B.length c) (posOf l k : Nat) 0 ∧ w.grownBy wr (some g)) (fun _ _ _ _ i _ => l.length - (intOf i).toNat)
  case atStart => exact ⟨0, hl0, rfl, ⟨[], World.ownsRow_nil _ _ _ _, rfl⟩, ⟨-1, rfl, rfl⟩, by simpa [posOf, gapEnc] using H1.out, hg1⟩
  case round =>
    obtain ⟨k, hk, rfl, ⟨R, hR, HRR⟩, ⟨x, rfl, HX⟩, hrd, hgr⟩ := hrel
    have hlt : k < l.length := hk
    by_cases hlast : k + 1 < l.length
    · obtain ⟨rest, hrest⟩ := short_drop l k hlast
      have hB2 : Bys wr b off B := fun i hi => by
        rw [World.cell?_of_block (w := w) (hgr.block b hbl (fun e => hgb (by cases e; rfl)))]; exact HB.out i hi
      have hgap : gapOf l k < 2 ^ 62 := by
        have := Hl.out.1 k hlt
        have h3 : gapOf l k ≤ l.getD k 0 := by
          unfold gapOf; split
          · rename_i e; rw [e]; omega
          · omega
        omega
      have Hgap := Lib.hid hgap
      have Hrest := Lib.hid hrest
      have HB2 := Lib.hid hB2
      have Hrd := Lib.hid hrd
      clear hrest hB2 hgap hrd
      go_wp2_with fail
      refine (num_ok g b off c (gapOf l k) (posOf l k) B rest wr Hrd.out HB2.out hgb Hgap.out (by rw [HBe.out]; exact Hrest.out) hBl).mono ?_
      rintro e w2 ⟨rfl, h2, hg2⟩
      have H2 := Lib.hid h2
      clear h2
      go_wp2_with fail
      refine (why_calls g _ _ 0 w2 H2.out).mono ?_
      rintro e w3 ⟨rfl, rfl⟩
      have hsum := gap_sum l Hl.out k hlt
      have hx1 := HX.out
      unfold lastOf at hx1
      rw [← hx1] at hsum
      have hlk := Hl.out.1 k hlt
      rw [two62] at hlk
      have hgk : 0 ≤ (gapOf l k : Int) := by omega
      have hxl : -1 ≤ x := by rw [hx1]; split <;> omega
      have hxu : x ≤ 4611686018427387904 := by omega
      obtain ⟨z, hz⟩ : ∃ z : Int, z = (gapOf l k : Int) := ⟨_, rfl⟩
      have hz2 := Lib.hid hz
      rw [← hz] at hsum hgk ⊢
      obtain ⟨y, hy⟩ : ∃ y : Int, y = ((l.getD k 0 : Nat) : Int) := ⟨_, rfl⟩
      have hyl : y < 4611686018427387904 := by omega
      have hsum2 : x + (z + 1) = y := by omega
      have hnle : ¬ 4611686018427387902 - x < z := by omega
      have hy2 := Lib.hid hy
      have hrl : R.length ≤ 4000 := by rw [HRR.out, nz_len, List.length_take]; omega
      clear hlk hsum hx1 hz hy
      obtain ⟨A, cc, rfl⟩ := hR.shape
      have hgr2 : w.grownBy w2 (some g) := hgr.trans hg2
      have hR2 := hR.kept hg2 (fun q hq => by cases hq; exact HR.out.lt)
      go_wp2_with fail
      refine (why_calls g _ _ 0 w2 H2.out).mono ?_
      rintro e w3 ⟨rfl, rfl⟩
      have hws : w.heap.size ≤ w2.heap.size := hgr2.size
      go_wp2_with (at_builtin; refine OI.append rfl _ _ rfl _ _ rfl hR2 _ _ rfl (by omega) hws ?_)
      intro v' w4 hR4 hg4
      have hown : ∀ q, q < w.heap.size → some q ≠ (Value.slice A R.length cc).ownBlock := fun q hq e => by
        have := World.ownsRow.lt hR2 q e.symm; omega
      have hgr4 : w.grownBy w4 (some g) := ⟨hg4.os.trans hgr2.os, hg4.tape.trans hgr2.tape, hg4.output.trans hgr2.output, Nat.le_trans hgr2.size hg4.size, fun q hq hne =>
        (hg4.block q (by omega) (hown q hq)).trans (hgr2.block q hq hne)⟩
      go_wp2
      go_roundw
      case rel => 
        refine ⟨k + 1, by omega, by go_num, ⟨_, hR4, ?_⟩, ⟨y, rfl, ?_⟩, ?_, ?_⟩
        · rw [Hid, nz_take l k hlt, ← HRR.out, ← hy2.out]
        · rw [hy2.out]; rfl
        · rw [posOf_succ]; exact H2.out.kept hg4 (hown g HR.out.lt)
        · exact hgr4
      case measure => simp [intOf]; omega
    · have hend : k + 1 = l.length := by omega
      have hsd := Lib.hid (short_last l k hend)
      have hB2 : Bys wr b off B := fun i hi => by
        rw [World.cell?_of_block (w := w) (hgr.block b hbl (fun e => hgb (by cases e; rfl)))]; exact HB.out i hi
      have hgap : gapOf l k < 2 ^ 62 := by
        have := Hl.out.1 k hlt
        have h3 : gapOf l k ≤ l.getD k 0 := by
          unfold gapOf; split
          · rename_i e; rw [e]; omega
          · omega
        omega
      have hpos6 : posOf l k ≤ 1000000 := by
        have h1 := gapEnc_len l Hl.out k (by omega)
        have h2 := dig_len 9 l.length (by have e2 : (128 : Nat) ^ 9 = 9223372036854775808 := by decide
                                          omega) (by omega)
        unfold posOf
        rw [enc_len]; omega
      have Hgap := Lib.hid hgap
      have HB2 := Lib.hid hB2
      have Hrd := Lib.hid hrd
      clear hB2 hgap hrd
      go_wp2_with fail
      refine (num_short g b off c (gapOf l k) (posOf l k) ((dig (gapOf l k)).length - 1) B wr Hrd.out HB2.out Hgap.out (by have := List.length_pos_iff.2 (dig_ne (gapOf l k)); omega) hpos6 (by rw [HBe.out]; exact hsd.out) hBl).mono ?_
      rintro e w2 ⟨rfl, h2, hg2⟩
      have H2 := Lib.hid h2
      clear h2
      go_wp2_with fail
      refine (why_calls g _ _ 30 w2 H2.out).mono ?_
      rintro e w3 ⟨rfl, rfl⟩
      go_wp2_with fail
      refine (why_calls g _ _ 30 w2 H2.out).mono ?_
      rintro e w3 ⟨rfl, rfl⟩
      go_wp2
      go_ret
      exact ⟨rfl, ⟨_, H2.out⟩, hgr.trans hg2⟩

set_option maxHeartbeats 400000 in
theorem left_calls (g : Nat) (A : Option Addr) (n c a : Nat) (w : World) (h : RD w g (.slice A n c) a 0) (ha : a = n) (hn : n ≤ 1000000) :
    Calls Try.prog 22 #[.pointer (some ⟨g, 0, none⟩)] w fun e w' => e = .returned (.int .i64 0) ∧ ∃ k, w' = w.drewN k := by
  have c0 := h.c0
  have c1 := h.c1
  subst ha
  have hz : (a : Int) - (a : Int) = 0 := by omega
  go_enter Try.func22, Try.ntmps22
  go_wp2
  go_quiet (fail)
  go_wp2
  go_ret
  exact ⟨rfl, _, rfl⟩

set_option maxHeartbeats 400000 in
theorem end_calls (g : Nat) (A : Option Addr) (n c a : Nat) (w : World) (h : RD w g (.slice A n c) a 0) (ha : a = n) (hn : n ≤ 1000000) :
    Calls Try.prog 15 #[.pointer (some ⟨g, 0, none⟩)] w fun e w' => e = .returned (.int .i64 0) ∧ ∃ k, w' = w.drewN k := by
  have c2 := h.c2
  go_enter Try.func15, Try.ntmps15
  go_wp2_with fail
  refine (left_calls g A n c a w h ha hn).mono ?_
  rintro e w1 ⟨rfl, k, rfl⟩
  go_wp2
  go_ret
  exact ⟨rfl, _, rfl⟩
end Go.Proofs.Ytegajejaadkkiab
