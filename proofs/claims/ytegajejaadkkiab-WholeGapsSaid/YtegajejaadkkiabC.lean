import Derived.Test.YtegajejaadkkiabB
namespace Go.Proofs.Ytegajejaadkkiab
open Go.RowKit

/-- a row that rises. -/
def Rises (l : List Nat) : Prop := (∀ i, i < l.length → l.getD i 0 < 2 ^ 62) ∧ ∀ i, i + 1 < l.length → l.getD i 0 < l.getD (i + 1) 0

/-- what lies between. -/
def gapOf (l : List Nat) (i : Nat) : Nat := if i = 0 then l.getD 0 0 else l.getD i 0 - (l.getD (i - 1) 0 + 1)
/-- the first k numbers' bytes. -/
def gapEnc (l : List Nat) (k : Nat) : List Int := (List.range k).flatMap fun i => enc (gapOf l i)
def rowEnc (l : List Nat) : List Int := enc l.length ++ gapEnc l l.length

theorem gapEnc_succ (l : List Nat) (k : Nat) : gapEnc l (k + 1) = gapEnc l k ++ enc (gapOf l k) := by
  simp [gapEnc, List.range_succ]

theorem gapEnc_len (l : List Nat) (h : Rises l) : ∀ k, k ≤ l.length → (gapEnc l k).length ≤ 9 * k := by
  intro k
  induction k with
  | zero => intro _; simp [gapEnc]
  | succ k ih =>
    intro hk
    rw [gapEnc_succ, List.length_append, enc_len]
    have h1 := ih (by omega)
    have h2 := h.1 k (by omega)
    have h3 : gapOf l k ≤ l.getD k 0 := by
      unfold gapOf; split
      · rename_i e; rw [e]; omega
      · omega
    have h4 := dig_len 9 (gapOf l k) (by have e : (2 : Nat) ^ 62 = 4611686018427387904 := by decide
                                         have e2 : (128 : Nat) ^ 9 = 9223372036854775808 := by decide
                                         omega) (by omega)
    omega

theorem two62 : (2 : Nat) ^ 62 = 4611686018427387904 := by decide

def RetD2 (w : World) (row : Option Nat) (xs : List Int) (ok : Bool) (e : Ending) (w' : World) : Prop := ∃ v', e = .returned (.tuple #[v', .bool ok]) ∧ DB w w' row v' xs

theorem nz_get (l : List Nat) (i : Nat) : (nz l).getD i 0 = (l.getD i 0 : Nat) := by
  unfold nz
  rw [List.getD_eq_getElem?_getD, List.getElem?_map, List.getD_eq_getElem?_getD]
  cases l[i]? <;> rfl
theorem nz_len (l : List Nat) : (nz l).length = l.length := by simp [nz]

set_option maxHeartbeats 2000000 in
set_option maxRecDepth 100000 in
theorem gput_calls (row : Option Nat) (v : Value) (xs : List Int) (l : List Nat) (b off c : Nat) (w : World) (hd : DB w w row v xs) (hx : xs.length ≤ 100000) (hl : Rises l) (hl1 : l.length ≤ 4096) (hbl : b < w.heap.size) (hrow : row ≠ some b)
    (hc : ∀ i, i < l.length → w.cell? ⟨b, off + i, none⟩ = some (.int .i64 (l.getD i 0 : Nat))) :
    Calls Try.prog 7 #[v, .slice (some ⟨b, off, none⟩) l.length c] w (RetD2 w row (xs ++ rowEnc l) true) := by
  have Hc := Lib.hid hc
  clear hc
  go_enter Try.func7, Try.ntmps7
  go_wp2
  go_loop [4, 5, 6, 7, 16] (fun _ _ _ _ i => ∃ k : Nat, k ≤ l.length ∧ i = .int .i64 k) (fun _ _ _ _ i => l.length - (intOf i).toNat)
  case atStart => exact ⟨0, by omega, rfl⟩
  case round =>
    obtain ⟨k, hk, rfl⟩ := hrel
    by_cases hlt : k < l.length
    · have hck := Hc.out k hlt
      have hb1 := hl.1 k hlt
      rw [two62] at hb1
      by_cases h0 : k = 0
      · subst h0
        rw [Nat.add_zero] at hck
        have hb2 : ((l.getD 0 0 : Nat) : Int) < 4611686018427387904 := by omega
        have hb3 : 0 ≤ ((l.getD 0 0 : Nat) : Int) := by omega
        generalize ((l.getD 0 0 : Nat) : Int) = x at *
        clear hb1
        go_wp2
        go_round
        case rel => exact ⟨1, by omega, by go_num⟩
        case measure => simp [intOf]; omega
      · obtain ⟨j, rfl⟩ : ∃ j, k = j + 1 := ⟨k - 1, by omega⟩
        have hcj := Hc.out j (by omega)
        have hr := hl.2 j hlt
        have hb2 : ((l.getD (j + 1) 0 : Nat) : Int) < 4611686018427387904 := by omega
        have hb3 : 0 ≤ ((l.getD (j + 1) 0 : Nat) : Int) := by omega
        have hr2 : ((l.getD j 0 : Nat) : Int) < ((l.getD (j + 1) 0 : Nat) : Int) := by omega
        clear hb1 hr
        generalize ((l.getD (j + 1) 0 : Nat) : Int) = x at *
        generalize ((l.getD j 0 : Nat) : Int) = y at *
        have hj : ((j + 1 : Nat) : Int) - 1 = (j : Int) := by omega
        go_wp2
        go_round
        case rel => exact ⟨j + 1 + 1, by omega, by go_num⟩
        case measure => simp [intOf]; omega
    · obtain rfl : k = l.length := by omega
      go_wp2_with fail
      refine (wput_calls row v xs l.length w hd (by rw [two62]; omega) (by omega)).mono ?_
      rintro e w1 ⟨v1, rfl, hd1⟩
      have hlen1 : (xs ++ enc l.length).length ≤ 100010 := by
        rw [List.length_append, enc_len]
        have := dig_len 9 l.length (by have e2 : (128 : Nat) ^ 9 = 9223372036854775808 := by decide
                                       omega) (by omega)
        omega
      generalize hX0 : xs ++ enc l.length = X0 at hd1 hlen1
      have HX0 := Lib.hid hX0
      clear hX0
      have hgl : ∀ k, k ≤ l.length → (gapEnc l k).length ≤ 9 * k := gapEnc_len l hl
      have Hgl := Lib.hid hgl
      have Hl := Lib.hid hl
      clear hgl hl
      go_wp2
      go_loopw [0, 8, 9, 48] (fun vv _ _ i wr => ∃ (k : Nat) (X : List Int), k ≤ l.length ∧ i = .int .i64 k ∧ DB w wr row vv X ∧ Hid (X = X0 ++ gapEnc l k)) (fun _ _ _ i _ => l.length - (intOf i).toNat)
      case atStart => exact ⟨0, X0, by omega, rfl, hd1, by simp [Hid, gapEnc]⟩
      case round =>
        obtain ⟨k, X, hk, rfl, hdk, HX⟩ := hrel
        by_cases hlt : k < l.length
        · have hck := Hc.out k hlt
          have hck2 : wr.cell? ⟨b, off + k, none⟩ = some (.int .i64 (l.getD k 0 : Nat)) := by
            rw [← hck]; exact World.cell?_of_block (w := w) (hdk.1.gr.block b hbl (fun e => hrow e.symm))
          clear hck
          have hb1 := Hl.out.1 k hlt
          rw [two62] at hb1
          have hXl : X.length ≤ 200000 := by rw [HX.out, List.length_append]; have := Hgl.out k hk; omega
          obtain ⟨row', hd2, _, hback⟩ := hdk.self
          have hgk := Lib.hid (gapEnc_succ l k)
          by_cases h0 : k = 0
          · subst h0
            rw [Nat.add_zero] at hck2
            have hg := Lib.hid (show gapOf l 0 = l.getD 0 0 from rfl)
            generalize l.getD 0 0 = x at *
            have hb1' := Lib.hid hb1
            clear hb1
            go_wp2_with fail
            refine (wput_calls row' u0 X x wr hd2 (by have := hb1'.out; rw [two62]; omega) (by omega)).mono ?_
            rintro e w2 ⟨v2, rfl, hd3⟩
            go_wp2
            go_roundw
            case rel => exact ⟨1, _, by omega, by go_num, hback _ _ _ hd3, by rw [Hid, HX.out, hgk.out, hg.out, List.append_assoc]⟩
            case measure => simp [intOf]; omega
          · obtain ⟨j, rfl⟩ : ∃ j, k = j + 1 := ⟨k - 1, by omega⟩
            have hcj := Hc.out j (by omega)
            have hcj2 : wr.cell? ⟨b, off + j, none⟩ = some (.int .i64 (l.getD j 0 : Nat)) := by
              rw [← hcj]; exact World.cell?_of_block (w := w) (hdk.1.gr.block b hbl (fun e => hrow e.symm))
            clear hcj
            have hr := Hl.out.2 j hlt
            have hg := Lib.hid (show gapOf l (j + 1) = l.getD (j + 1) 0 - (l.getD j 0 + 1) from rfl)
            obtain ⟨z, hz0⟩ : ∃ z : Nat, z = l.getD (j + 1) 0 - (l.getD j 0 + 1) := ⟨_, rfl⟩
            have hz : ((l.getD (j + 1) 0 : Nat) : Int) - (((l.getD j 0 : Nat) : Int) + 1) = (z : Int) := by omega
            have hzb := Lib.hid (show z < 2 ^ 62 by rw [two62]; omega)
            have hb2 : ((l.getD (j + 1) 0 : Nat) : Int) < 4611686018427387904 := by omega
            have hb3 : 0 ≤ ((l.getD j 0 : Nat) : Int) := by omega
            have hr2 : ((l.getD j 0 : Nat) : Int) < ((l.getD (j + 1) 0 : Nat) : Int) := by omega
            have hz2 := Lib.hid hz0
            clear hb1 hr hz0
            generalize ((l.getD (j + 1) 0 : Nat) : Int) = x at *
            generalize ((l.getD j 0 : Nat) : Int) = y at *
            have hj : ((j + 1 : Nat) : Int) - 1 = (j : Int) := by omega
            go_wp2_with fail
            refine (wput_calls row' u0 X z wr hd2 hzb.out (by omega)).mono ?_
            rintro e w2 ⟨v2, rfl, hd3⟩
            go_wp2
            go_roundw
            case rel => exact ⟨j + 1 + 1, _, by omega, by go_num, hback _ _ _ hd3, by rw [Hid, HX.out, hgk.out, hg.out, hz2.out, List.append_assoc]⟩
            case measure => simp [intOf]; omega
        · obtain rfl : k = l.length := by omega
          go_wp2
          go_ret2
          refine ⟨_, rfl, ?_⟩
          rw [rowEnc, ← List.append_assoc, HX0.out, ← HX.out]
          exact hdk
end Go.Proofs.Ytegajejaadkkiab
