import Derived.Test.YtegajejaadkkiaaC
namespace Go.Proofs.Ytegajejaadkkiaa
open Go.RowKit

def mnode (x : Int) : Int := x % 5 % 5

attribute [local go_sem] max2_mx max_two in
set_option maxHeartbeats 2000000 in
set_option maxRecDepth 100000 in
theorem most_calls (bx bl off c : Nat) (l : List (Int × Int)) (a b r : Int) (w : World) (hP : Pairs w bl off l) (hBy : Bytes l) (hl : l.length ≤ 30) (hc : l.length ≤ c) (hr1 : 1 ≤ r) (hr5 : r ≤ 4) (ha : 0 ≤ a) (hb : 0 ≤ b) (hbl : bl < w.heap.size) (hbx : bx < w.heap.size)
    (hcx : w.cell? ⟨bx, 0, none⟩ = some (.slice (some ⟨bl, off, none⟩) l.length c)) :
    Calls Try.prog 6 #[.int .i64 a, .int .i64 b, .int .i64 r, .int .i64 5, .pointer (some ⟨bx, 0, none⟩)] w fun e w' => e = .returned (.int .i64 (outT (gstep mnode r a b) l 0)) ∧ Below w.heap.size w w' := by
  go_enter Try.func6, Try.ntmps6
  go_wp2
  go_loopw [10, 11, 12, 14, 15, 16, 19] (fun be _ _ _ _ _ i wr => ∃ k : Nat, k ≤ l.length ∧ i = .int .i64 k ∧ ∃ z : Int, be = .int .i64 z ∧ 0 ≤ z ∧ z ≤ 1920 ∧ Hid (outT (gstep mnode r a b) (l.drop k) z = outT (gstep mnode r a b) l 0) ∧ Below w.heap.size w wr) (fun _ _ _ _ _ _ i _ => l.length - (intOf i).toNat)
  case atStart => exact ⟨0, by omega, rfl, 0, rfl, by omega, by omega, rfl, Below.refl _ _⟩
  case round =>
    obtain ⟨k, hk, rfl, z, rfl, hz0, hz1, HO, hB⟩ := hrel
    by_cases hlt : k < l.length
    · have hcx' := (hB.cell (p := ⟨bx, 0, none⟩) hbx).trans hcx
      go_wp2
      obtain ⟨wo, rfl⟩ : ∃ wo : World, wo = wr := ⟨_, rfl⟩
      go_loopw [10, 12, 14, 15, 16, 26] (fun be su _ _ _ j wr => ∃ i : Nat, k + i ≤ l.length ∧ j = .int .i64 i ∧ ∃ z' : Int, be = .int .i64 z' ∧ 0 ≤ z' ∧ z' ≤ 1920 ∧ ∃ s : Int, su = .int .i64 s ∧ -256 * i ≤ s ∧ s ≤ 64 * i ∧ Hid (accT (gstep mnode r a b) (l.drop (k + i)) s z' = accT (gstep mnode r a b) (l.drop k) 0 z) ∧ Below w.heap.size w wr) (fun _ _ _ _ _ j _ => l.length - (intOf j).toNat)
      case atStart => exact ⟨0, by omega, rfl, z, rfl, by omega, by omega, 0, rfl, by omega, by omega, rfl, hB⟩
      case round =>
        obtain ⟨i, hi, rfl, z', rfl, hz0', hz1', s, rfl, hs0, hs1, HA, hB⟩ := hrel
        by_cases hlt2 : i < l.length - k
        · obtain ⟨hx, hy⟩ := hP (k + i) (by omega)
          have hx' := (hB.cell (p := ⟨bl, _, none⟩) hbl).trans hx
          have hy' := (hB.cell (p := ⟨bl, _, none⟩) hbl).trans hy
          have hyb := hBy (k + i) (by omega)
          have HX := HA.out
          rw [accT_drop (by omega)] at HX
          have HX' := Lib.hid HX
          clear HX HA hx hy
          generalize l.getD (k + i) (0, 0) = p at *
          obtain ⟨x, y⟩ := p
          obtain ⟨hx0, hx1, hy0, hy1⟩ := hyb
          simp only at hx' hy' hx0 hx1 hy0 hy1
          rw [show off + (k + i) * 2 = off + k * 2 + i * 2 by omega] at hx' hy'
          have hq0 : 0 ≤ r * (y % 65) := Int.mul_nonneg (by omega) (by omega)
          have hq1 : r * (y % 65) ≤ 4 * 64 := Int.mul_le_mul hr5 (by omega) (by omega) (by omega)
          obtain ⟨N, hN⟩ : ∃ N, mnode x = N := ⟨_, rfl⟩
          have HN := Lib.hid hN
          unfold mnode at hN
          by_cases hab : a = b
          · subst hab
            have E1 := Lib.hid (show gstep mnode r a a (x, y) s = s from by unfold gstep; rw [if_pos rfl])
            by_cases hNa : N = a
            all_goals
              go_wp2
              go_quiet (fail)
              go_wp2
              go_roundw
              case rel => exact ⟨i + 1, by omega, by go_num, mx z' s, rfl, Int.le_trans hz0' le_mx, mx_le hz1' (by omega), s, rfl, by omega, by omega, by rw [← HX'.out, E1.out]; rfl, below_drewN (hB.alloc hB.size _) _⟩
              case measure => simp [intOf]; omega
          · have hab' : (a != b) = true := by rw [bne_iff_ne]; exact hab
            by_cases hNa : N = a
            · have E1 := Lib.hid (show gstep mnode r a b (x, y) s = s + y % 65 from by unfold gstep; rw [if_neg hab, HN.out, if_pos hNa])
              have hNb : ¬ N = b := by omega
              have hNab : ¬ a = b := hab
              subst hNa
              go_wp2
              go_quiet (fail)
              go_wp2
              go_roundw
              case rel => exact ⟨i + 1, by omega, by go_num, mx z' (s + y % 65), rfl, Int.le_trans hz0' le_mx, mx_le hz1' (by omega), s + y % 65, rfl, by omega, by omega, by rw [← HX'.out, E1.out]; rfl, below_drewN (hB.alloc hB.size _) _⟩
              case measure => simp [intOf]; omega
            · by_cases hNb : N = b
              · have E1 := Lib.hid (show gstep mnode r a b (x, y) s = s - r * (y % 65) from by unfold gstep; rw [if_neg hab, HN.out, if_neg hNa, if_pos hNb])
                subst hNb
                go_wp2
                go_quiet (fail)
                go_wp2
                go_roundw
                case rel => exact ⟨i + 1, by omega, by go_num, mx z' (s - r * (y % 65)), rfl, Int.le_trans hz0' le_mx, mx_le hz1' (by omega), s - r * (y % 65), rfl, by omega, by omega, by rw [← HX'.out, E1.out]; rfl, below_drewN (hB.alloc hB.size _) _⟩
                case measure => simp [intOf]; omega
              · have E1 := Lib.hid (show gstep mnode r a b (x, y) s = s from by unfold gstep; rw [if_neg hab, HN.out, if_neg hNa, if_neg hNb])
                go_wp2
                go_quiet (fail)
                go_wp2
                go_roundw
                case rel => exact ⟨i + 1, by omega, by go_num, mx z' s, rfl, Int.le_trans hz0' le_mx, mx_le hz1' (by omega), s, rfl, by omega, by omega, by rw [← HX'.out, E1.out]; rfl, below_drewN (hB.alloc hB.size _) _⟩
                case measure => simp [intOf]; omega
        · obtain rfl : i = l.length - k := by omega
          go_wp2
          go_roundw
          case rel => 
            refine ⟨k + 1, by omega, by go_num, z', rfl, hz0', hz1', ?_, hB⟩
            have h1 := HA.out
            rw [show k + (l.length - k) = l.length by omega, List.drop_length, accT] at h1
            rw [Hid, ← HO.out, outT_drop hlt, ← h1]
          case measure => simp [intOf]; omega
    · obtain rfl : k = l.length := by omega
      have h1 := HO.out
      rw [List.drop_length, outT] at h1
      have H1 := Lib.hid h1
      clear h1
      go_wp2
      go_ret
      exact ⟨ret_int H1.out, hB⟩
end Go.Proofs.Ytegajejaadkkiaa
