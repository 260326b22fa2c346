import Derived.Test.YtegajejaadkkiabI
namespace Go.Proofs.Ytegajejaadkkiab
open Go.RowKit

def posOf (l : List Nat) (k : Nat) : Nat := (enc l.length).length + (gapEnc l k).length
theorem posOf_succ (l : List Nat) (k : Nat) : posOf l (k + 1) = posOf l k + (enc (gapOf l k)).length := by
  unfold posOf; rw [gapEnc_succ, List.length_append]; omega
theorem posOf_all (l : List Nat) : posOf l l.length = (rowEnc l).length := by
  unfold posOf rowEnc; rw [List.length_append]
theorem enc_pos (n : Nat) : 0 < (enc n).length := by rw [enc_len]; exact List.length_pos_iff.2 (dig_ne n)

theorem rowEnc_drop (l : List Nat) (k : Nat) (hk : k < l.length) : ∃ rest, (rowEnc l).drop (posOf l k) = enc (gapOf l k) ++ rest ∧ (k + 1 < l.length → rest ≠ []) ∧ (k + 1 = l.length → rest = []) := by
  refine ⟨(List.range' (k + 1) (l.length - (k + 1))).flatMap fun i => enc (gapOf l i), ?_, ?_, ?_⟩
  · unfold rowEnc posOf
    rw [gapEnc_split l k hk, ← List.append_assoc, ← List.length_append, List.drop_left]
  · intro h
    obtain ⟨j, hj⟩ : ∃ j, l.length - (k + 1) = j + 1 := ⟨l.length - (k + 1) - 1, by omega⟩
    rw [hj, List.range'_succ, List.flatMap_cons]
    intro e
    have h1 := enc_pos (gapOf l (k + 1))
    rw [(List.append_eq_nil_iff.1 e).1] at h1
    simp at h1
  · intro h
    rw [h, Nat.sub_self]; rfl

theorem gap_sum (l : List Nat) (h : Rises l) (k : Nat) (hk : k < l.length) : (gapOf l k : Int) + 1 + (if k = 0 then -1 else ((l.getD (k - 1) 0 : Nat) : Int)) = ((l.getD k 0 : Nat) : Int) := by
  unfold gapOf
  by_cases h0 : k = 0
  · subst h0; simp only [if_true]; omega
  · rw [if_neg h0, if_neg h0]
    obtain ⟨j, rfl⟩ : ∃ j, k = j + 1 := ⟨k - 1, by omega⟩
    have := h.2 j hk
    simp only [Nat.add_sub_cancel]
    omega

def lastOf (l : List Nat) (k : Nat) : Int := if k = 0 then -1 else ((l.getD (k - 1) 0 : Nat) : Int)

def RetG (w : World) (g : Nat) (v : Value) (l : List Nat) (at_ : Int) (e : Ending) (w' : World) : Prop := ∃ v', e = .returned v' ∧ OI w.heap.size w' v' (nz l) ∧ RD w' g v at_ 0 ∧ w.grownBy w' (some g)

theorem nz_take (l : List Nat) (k : Nat) (hk : k < l.length) : nz (l.take (k + 1)) = nz (l.take k) ++ [((l.getD k 0 : Nat) : Int)] := by
  unfold nz
  rw [List.take_succ_eq_append_getElem hk, List.map_append, List.getD_eq_getElem?_getD, List.getElem?_eq_getElem hk]; rfl

set_option maxHeartbeats 1000000 in
set_option maxRecDepth 100000 in
theorem get_ok (g b off c : Nat) (l : List Nat) (B : List Int) (w : World) (hBe : B = rowEnc l) (h : RD w g (.slice (some ⟨b, off, none⟩) B.length c) 0 0) (hB : Bys w b off B) (hgb : b ≠ g) (hbl : b < w.heap.size) (hl : Rises l) (hl0 : 0 < l.length) (hl1 : l.length ≤ 4000) :
    Calls Try.prog 14 #[.pointer (some ⟨g, 0, none⟩)] w (RetG w g (.slice (some ⟨b, off, none⟩) B.length c) l B.length) := by
  have hBl : B.length ≤ 1000000 := by
    rw [hBe, rowEnc, List.length_append]
    have h1 := gapEnc_len l hl l.length (Nat.le_refl _)
    have h2 := dig_len 9 l.length (by have e2 : (128 : Nat) ^ 9 = 9223372036854775808 := by decide
                                      omega) (by omega)
    rw [enc_len]; omega
  have HR := Lib.hid h
  have HB := Lib.hid hB
  have HBe := Lib.hid hBe
  have Hl := Lib.hid hl
  clear h hB hBe hl
  go_enter Try.func14, Try.ntmps14
  go_wp2_with fail
  refine (count_ok g b off c l.length B (gapEnc l l.length) w HR.out HB.out hgb (by omega) HBe.out hBl).mono ?_
  rintro e w1 ⟨rfl, h1, hg1⟩
  have H1 := Lib.hid h1
  have hw1 := hg1.size
  clear h1
  go_wp2
  go_loopw [2, 3, 4, 5, 8] (fun _ ov lv _ i wr => ∃ k : Nat, k ≤ l.length ∧ i = .int .i64 k ∧ (∃ R, OI w.heap.size wr ov R ∧ Hid (R = nz (l.take k))) ∧ (∃ x : Int, lv = .int .i64 x ∧ Hid (x = lastOf l k)) ∧ RD wr g (.slice (some ⟨b, off, none⟩) B.length c) (posOf l k : Nat) 0 ∧ w.grownBy wr (some g)) (fun _ _ _ _ i _ => l.length - (intOf i).toNat)
  case atStart => exact ⟨0, by omega, rfl, ⟨[], World.ownsRow_nil _ _ _ _, rfl⟩, ⟨-1, rfl, rfl⟩, by simpa [posOf, gapEnc] using H1.out, hg1⟩
  case round =>
    obtain ⟨k, hk, rfl, ⟨R, hR, HRR⟩, ⟨x, rfl, HX⟩, hrd, hgr⟩ := hrel
    by_cases hlt : k < l.length
    · obtain ⟨rest, hrest, _, _⟩ := rowEnc_drop l k hlt
      have hB2 : Bys wr b off B := fun i hi => by
        rw [World.cell?_of_block (w := w) (hgr.block b hbl (fun e => hgb (by cases e; rfl)))]; exact HB.out i hi
      have hgap : gapOf l k < 2 ^ 62 := by
        have := Hl.out.1 k hlt
        have h3 : gapOf l k ≤ l.getD k 0 := by
          unfold gapOf; split
          · rename_i e; rw [e]; omega
          · omega
        omega
      have Hgap := Lib.hid hgap
      have Hrest := Lib.hid hrest
      have HB2 := Lib.hid hB2
      have Hrd := Lib.hid hrd
      clear hrest hB2 hgap hrd
      go_wp2_with fail
      refine (num_ok g b off c (gapOf l k) (posOf l k) B rest wr Hrd.out HB2.out hgb Hgap.out (by rw [HBe.out]; exact Hrest.out) hBl).mono ?_
      rintro e w2 ⟨rfl, h2, hg2⟩
      have H2 := Lib.hid h2
      clear h2
      go_wp2_with fail
      refine (why_calls g _ _ 0 w2 H2.out).mono ?_
      rintro e w3 ⟨rfl, rfl⟩
      have hsum := gap_sum l Hl.out k hlt
      have hx1 := HX.out
      unfold lastOf at hx1
      rw [← hx1] at hsum
      have hlk := Hl.out.1 k hlt
      rw [two62] at hlk
      have hgk : 0 ≤ (gapOf l k : Int) := by omega
      have hxl : -1 ≤ x := by rw [hx1]; split <;> omega
      have hxu : x ≤ 4611686018427387904 := by omega
      obtain ⟨z, hz⟩ : ∃ z : Int, z = (gapOf l k : Int) := ⟨_, rfl⟩
      have hz2 := Lib.hid hz
      rw [← hz] at hsum hgk ⊢
      obtain ⟨y, hy⟩ : ∃ y : Int, y = ((l.getD k 0 : Nat) : Int) := ⟨_, rfl⟩
      have hyl : y < 4611686018427387904 := by omega
      have hsum2 : x + (z + 1) = y := by omega
      have hnle : ¬ 4611686018427387902 - x < z := by omega
      have hy2 := Lib.hid hy
      have hrl : R.length ≤ 4000 := by rw [HRR.out, nz_len, List.length_take]; omega
      clear hlk hsum hx1 hz hy
      obtain ⟨A, cc, rfl⟩ := hR.shape
      have hgr2 : w.grownBy w2 (some g) := hgr.trans hg2
      have hR2 := hR.kept hg2 (fun q hq => by cases hq; exact HR.out.lt)
      go_wp2_with fail
      refine (why_calls g _ _ 0 w2 H2.out).mono ?_
      rintro e w3 ⟨rfl, rfl⟩
      have hws : w.heap.size ≤ w2.heap.size := hgr2.size
      go_wp2_with (at_builtin; refine OI.append rfl _ _ rfl _ _ rfl hR2 _ _ rfl (by omega) hws ?_)
      intro v' w4 hR4 hg4
      have hown : ∀ q, q < w.heap.size → some q ≠ (Value.slice A R.length cc).ownBlock := fun q hq e => by
        have := World.ownsRow.lt hR2 q e.symm; omega
      have hgr4 : w.grownBy w4 (some g) := ⟨hg4.os.trans hgr2.os, hg4.tape.trans hgr2.tape, hg4.output.trans hgr2.output, Nat.le_trans hgr2.size hg4.size, fun q hq hne =>
        (hg4.block q (by omega) (hown q hq)).trans (hgr2.block q hq hne)⟩
      go_wp2
      go_roundw
      case rel => 
        refine ⟨k + 1, by omega, by go_num, ⟨_, hR4, ?_⟩, ⟨y, rfl, ?_⟩, ?_, ?_⟩
        · rw [Hid, nz_take l k hlt, ← HRR.out, ← hy2.out]
        · rw [hy2.out]; rfl
        · rw [posOf_succ]; exact H2.out.kept hg4 (hown g HR.out.lt)
        · exact hgr4
      case measure => simp [intOf]; omega
    · obtain rfl : k = l.length := by omega
      go_wp2_with fail
      refine (why_calls g _ _ 0 wr hrd).mono ?_
      rintro e w3 ⟨rfl, rfl⟩
      have H3 := Lib.hid hrd
      clear hrd
      go_wp2
      go_ret
      refine ⟨_, rfl, ?_, ?_, hgr⟩
      · have := HRR.out
        rw [List.take_length] at this
        rw [← this]; exact hR
      · have e : (B.length : Int) = (posOf l l.length : Nat) := by rw [posOf_all, ← HBe.out]
        rw [e]; exact H3.out
end Go.Proofs.Ytegajejaadkkiab
