import Derived.Test.YtegajejaadkkiaaB
namespace Go.Proofs.Ytegajejaadkkiaa
open Go.RowKit

/-- the cells of a row of pairs of bytes. -/
def Pairs (w : World) (b off : Nat) (l : List (Int × Int)) : Prop :=
  ∀ i, i < l.length → w.cell? ⟨b, off + i * 2, none⟩ = some (.int .u8 (l.getD i (0, 0)).1) ∧ w.cell? ⟨b, off + i * 2 + 1, none⟩ = some (.int .u8 (l.getD i (0, 0)).2)

def Bytes (l : List (Int × Int)) : Prop := ∀ i, i < l.length → 0 ≤ (l.getD i (0, 0)).1 ∧ (l.getD i (0, 0)).1 ≤ 255 ∧ 0 ≤ (l.getD i (0, 0)).2 ∧ (l.getD i (0, 0)).2 ≤ 255


def accT (f : Int × Int → Int → Int) : List (Int × Int) → Int → Int → Int
  | [], _, m => m
  | x :: r, s, m => accT f r (f x s) (mx m (f x s))
def outT (f : Int × Int → Int → Int) : List (Int × Int) → Int → Int
  | [], m => m
  | x :: r, m => outT f r (accT f (x :: r) 0 m)

def gstep (node : Int → Int) (rate a b : Int) (x : Int × Int) (s : Int) : Int :=
  if a = b then s else if node x.1 = a then s + x.2 % 65 else if node x.1 = b then s - rate * (x.2 % 65) else s

def tnode (m x : Int) : Int := ((x % 5 - 5).tmod m + m).tmod m

theorem drop_cons {l : List (Int × Int)} {k : Nat} (h : k < l.length) : l.drop k = l.getD k (0, 0) :: l.drop (k + 1) := by
  rw [List.drop_eq_getElem_cons h, List.getD_eq_getElem?_getD, List.getElem?_eq_getElem h]; rfl

theorem accT_drop {f : Int × Int → Int → Int} {l : List (Int × Int)} {k : Nat} (h : k < l.length) (s m : Int) :
    accT f (l.drop k) s m = accT f (l.drop (k + 1)) (f (l.getD k (0, 0)) s) (mx m (f (l.getD k (0, 0)) s)) := by
  rw [drop_cons h, accT]
theorem outT_drop {f : Int × Int → Int → Int} {l : List (Int × Int)} {k : Nat} (h : k < l.length) (m : Int) :
    outT f (l.drop k) m = outT f (l.drop (k + 1)) (accT f (l.drop k) 0 m) := by
  rw [drop_cons h, outT]

theorem tnode_bd {m x : Int} (hm : 1 ≤ m) (hm5 : m ≤ 5) : -5 < (x % 5 - 5).tmod m ∧ (x % 5 - 5).tmod m ≤ 0 := by
  have h1 : x % 5 - 5 ≤ 0 := by omega
  have h2 : (x % 5 - 5).tmod m = -((5 - x % 5) % m) := by
    rw [show x % 5 - 5 = -(5 - x % 5) by omega, Int.neg_tmod, Int.tmod_eq_emod_of_nonneg (by omega)]
  have h3 := Int.emod_nonneg (5 - x % 5) (show m ≠ 0 by omega)
  have h4 := Int.emod_lt_of_pos (5 - x % 5) (show 0 < m by omega)
  omega

theorem mx_le {a b c : Int} (h : a ≤ c) (h' : b ≤ c) : mx a b ≤ c := by rw [mx_def]; omega
theorem le_mx {a b : Int} : a ≤ mx a b := by rw [mx_def]; omega
theorem ret_int {k : IntKind} {a b : Int} (h : a = b) : Ending.returned (.int k a) = .returned (.int k b) := by rw [h]

attribute [local go_sem] max2_mx max_two in
set_option maxHeartbeats 2000000 in
set_option maxRecDepth 100000 in
theorem turned_calls (bl off c : Nat) (l : List (Int × Int)) (a b m : Int) (w : World) (hP : Pairs w bl off l) (hBy : Bytes l) (hl : l.length ≤ 30) (hc : l.length ≤ c) (hm1 : 1 ≤ m) (hm5 : m ≤ 5) (ha : 0 ≤ a) (hb : 0 ≤ b) (hbl : bl < w.heap.size) :
    Calls Try.prog 9 #[.slice (some ⟨bl, off, none⟩) l.length c, .int .i64 a, .int .i64 b, .int .i64 m] w fun e w' => e = .returned (.int .i64 (outT (gstep (tnode m) 2 a b) l 0)) ∧ Below w.heap.size w w' := by
  go_enter Try.func9, Try.ntmps9
  go_wp2
  go_loopw [9, 10, 11, 13, 14, 15, 18] (fun be _ _ _ _ _ i wr => ∃ k : Nat, k ≤ l.length ∧ i = .int .i64 k ∧ ∃ z : Int, be = .int .i64 z ∧ 0 ≤ z ∧ z ≤ 1920 ∧ Hid (outT (gstep (tnode m) 2 a b) (l.drop k) z = outT (gstep (tnode m) 2 a b) l 0) ∧ Below w.heap.size w wr) (fun _ _ _ _ _ _ i _ => l.length - (intOf i).toNat)
  case atStart => exact ⟨0, by omega, rfl, 0, rfl, by omega, by omega, rfl, Below.refl _ _⟩
  case round =>
    obtain ⟨k, hk, rfl, z, rfl, hz0, hz1, HO, hB⟩ := hrel
    by_cases hlt : k < l.length
    · go_wp2
      obtain ⟨wo, rfl⟩ : ∃ wo : World, wo = wr := ⟨_, rfl⟩
      go_loopw [9, 11, 13, 14, 15, 25] (fun be su _ _ _ j wr => ∃ i : Nat, k + i ≤ l.length ∧ j = .int .i64 i ∧ ∃ z' : Int, be = .int .i64 z' ∧ 0 ≤ z' ∧ z' ≤ 1920 ∧ ∃ s : Int, su = .int .i64 s ∧ -128 * i ≤ s ∧ s ≤ 64 * i ∧ Hid (accT (gstep (tnode m) 2 a b) (l.drop (k + i)) s z' = accT (gstep (tnode m) 2 a b) (l.drop k) 0 z) ∧ Below w.heap.size w wr) (fun _ _ _ _ _ j _ => l.length - (intOf j).toNat)
      case atStart => exact ⟨0, by omega, rfl, z, rfl, by omega, by omega, 0, rfl, by omega, by omega, rfl, hB⟩
      case round =>
        obtain ⟨i, hi, rfl, z', rfl, hz0', hz1', s, rfl, hs0, hs1, HA, hB⟩ := hrel
        by_cases hlt2 : i < l.length - k
        · obtain ⟨hx, hy⟩ := hP (k + i) (by omega)
          have hx' := (hB.cell (p := ⟨bl, _, none⟩) hbl).trans hx
          have hy' := (hB.cell (p := ⟨bl, _, none⟩) hbl).trans hy
          have hyb := hBy (k + i) (by omega)
          have HX := HA.out
          rw [accT_drop (by omega)] at HX
          have HX' := Lib.hid HX
          clear HX HA hx hy
          generalize l.getD (k + i) (0, 0) = p at *
          obtain ⟨x, y⟩ := p
          obtain ⟨hx0, hx1, hy0, hy1⟩ := hyb
          simp only at hx' hy' hx0 hx1 hy0 hy1
          rw [show off + (k + i) * 2 = off + k * 2 + i * 2 by omega] at hx' hy'
          obtain ⟨hn0, hn1⟩ := tnode_bd (x := x) hm1 hm5
          obtain ⟨N, hN⟩ : ∃ N, tnode m x = N := ⟨_, rfl⟩
          have HN := Lib.hid hN
          unfold tnode at hN
          by_cases hab : a = b
          · subst hab
            have E1 := Lib.hid (show gstep (tnode m) 2 a a (x, y) s = s from by unfold gstep; rw [if_pos rfl])
            by_cases hNa : N = a
            all_goals
              go_wp2
              go_quiet (fail)
              go_wp2
              go_roundw
              case rel => exact ⟨i + 1, by omega, by go_num, mx z' s, rfl, Int.le_trans hz0' le_mx, mx_le hz1' (by omega), s, rfl, by omega, by omega, by rw [← HX'.out, E1.out]; rfl, below_drewN (hB.alloc hB.size _) _⟩
              case measure => simp [intOf]; omega
          · have hab' : (a != b) = true := by rw [bne_iff_ne]; exact hab
            by_cases hNa : N = a
            · have E1 := Lib.hid (show gstep (tnode m) 2 a b (x, y) s = s + y % 65 from by unfold gstep; rw [if_neg hab, HN.out, if_pos hNa])
              have hNb : ¬ N = b := by omega
              have hNab : ¬ a = b := hab
              subst hNa
              go_wp2
              go_quiet (fail)
              go_wp2
              go_roundw
              case rel => exact ⟨i + 1, by omega, by go_num, mx z' (s + y % 65), rfl, Int.le_trans hz0' le_mx, mx_le hz1' (by omega), s + y % 65, rfl, by omega, by omega, by rw [← HX'.out, E1.out]; rfl, below_drewN (hB.alloc hB.size _) _⟩
              case measure => simp [intOf]; omega
            · by_cases hNb : N = b
              · have E1 := Lib.hid (show gstep (tnode m) 2 a b (x, y) s = s - 2 * (y % 65) from by unfold gstep; rw [if_neg hab, HN.out, if_neg hNa, if_pos hNb])
                subst hNb
                go_wp2
                go_quiet (fail)
                go_wp2
                go_roundw
                case rel => exact ⟨i + 1, by omega, by go_num, mx z' (s - 2 * (y % 65)), rfl, Int.le_trans hz0' le_mx, mx_le hz1' (by omega), s - 2 * (y % 65), rfl, by omega, by omega, by rw [← HX'.out, E1.out]; rfl, below_drewN (hB.alloc hB.size _) _⟩
                case measure => simp [intOf]; omega
              · have E1 := Lib.hid (show gstep (tnode m) 2 a b (x, y) s = s from by unfold gstep; rw [if_neg hab, HN.out, if_neg hNa, if_neg hNb])
                go_wp2
                go_quiet (fail)
                go_wp2
                go_roundw
                case rel => exact ⟨i + 1, by omega, by go_num, mx z' s, rfl, Int.le_trans hz0' le_mx, mx_le hz1' (by omega), s, rfl, by omega, by omega, by rw [← HX'.out, E1.out]; rfl, below_drewN (hB.alloc hB.size _) _⟩
                case measure => simp [intOf]; omega
        · obtain rfl : i = l.length - k := by omega
          go_wp2
          go_roundw
          case rel => 
            refine ⟨k + 1, by omega, by go_num, z', rfl, hz0', hz1', ?_, hB⟩
            have h1 := HA.out
            rw [show k + (l.length - k) = l.length by omega, List.drop_length, accT] at h1
            rw [Hid, ← HO.out, outT_drop hlt, ← h1]
          case measure => simp [intOf]; omega
    · obtain rfl : k = l.length := by omega
      have h1 := HO.out
      rw [List.drop_length, outT] at h1
      have H1 := Lib.hid h1
      clear h1
      go_wp2
      go_ret
      exact ⟨ret_int H1.out, hB⟩
end Go.Proofs.Ytegajejaadkkiaa
