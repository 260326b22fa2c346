import Derived.Test.YtegajejaadkkiabF
namespace Go.Proofs.Ytegajejaadkkiab
open Go.RowKit

/-- a reader of bytes: where it stands, and why it reads no more. -/
def RD (w : World) (g : Nat) (v : Value) (at_ why : Int) : Prop := w.heap[g]? = some (.cells #[v, .int .i64 at_, .int .i64 why] 45 (0, 0))

theorem RD.c0 {w : World} {g : Nat} {v : Value} {a y : Int} (h : RD w g v a y) : w.cell? ⟨g, 0, none⟩ = some v := by
  unfold RD at h; simp [World.cell?, h]
theorem RD.c1 {w : World} {g : Nat} {v : Value} {a y : Int} (h : RD w g v a y) : w.cell? ⟨g, 1, none⟩ = some (.int .i64 a) := by
  unfold RD at h; simp [World.cell?, h]
theorem RD.c2 {w : World} {g : Nat} {v : Value} {a y : Int} (h : RD w g v a y) : w.cell? ⟨g, 2, none⟩ = some (.int .i64 y) := by
  unfold RD at h; simp [World.cell?, h]
theorem RD.fr {w : World} {g : Nat} {v : Value} {a y : Int} (h : RD w g v a y) (i : Nat) : w.frozen? ⟨g, i, none⟩ = false := by
  unfold RD at h; simp [World.frozen?, h]
theorem RD.lt {w : World} {g : Nat} {v : Value} {a y : Int} (h : RD w g v a y) : g < w.heap.size := (Array.getElem?_eq_some_iff.1 h).1
theorem RD.set1 {w : World} {g : Nat} {v : Value} {a y : Int} (h : RD w g v a y) (x : Int) : RD (w.setCell ⟨g, 1, none⟩ (.int .i64 x)) g v x y := by
  unfold RD at *; simp [World.setCell, Array.getElem?_modify, h]
theorem RD.set2 {w : World} {g : Nat} {v : Value} {a y : Int} (h : RD w g v a y) (x : Int) : RD (w.setCell ⟨g, 2, none⟩ (.int .i64 x)) g v a x := by
  unfold RD at *; simp [World.setCell, Array.getElem?_modify, h]
theorem grown_set (w : World) (g i : Nat) (u : Value) : w.grownBy (w.setCell ⟨g, i, none⟩ u) (some g) :=
  ⟨rfl, rfl, rfl, by simp [World.setCell], fun k _ hk => Below.heap_setCell _ _ _ _ (fun e => hk (by rw [e]))⟩
theorem RD.kept {w w' : World} {g : Nat} {v : Value} {a y : Int} {row : Option Nat} (h : RD w g v a y) (hg : w.grownBy w' row) (hne : some g ≠ row) : RD w' g v a y :=
  (hg.block g h.lt hne).trans h

/-- the bytes that are read. -/
def Bys (w : World) (b off : Nat) (B : List Int) : Prop := ∀ i, i < B.length → w.cell? ⟨b, off + i, none⟩ = some (.int .u8 (B.getD i 0))

def RetR (w : World) (g : Nat) (v : Value) (r at_ why : Int) (e : Ending) (w' : World) : Prop := e = .returned (.int .i64 r) ∧ RD w' g v at_ why ∧ w.grownBy w' (some g)

set_option maxHeartbeats 400000 in
theorem fail_calls (g : Nat) (v : Value) (a y : Int) (w : World) (h : RD w g v a 0) :
    Calls Try.prog 21 #[.pointer (some ⟨g, 0, none⟩), .int .i64 y] w fun e w' => e = .returned (.tuple #[]) ∧ RD w' g v a y ∧ w.grownBy w' (some g) := by
  have h2 := h.c2
  have hf := h.fr 2
  have H := Lib.hid h
  clear h
  go_enter Try.func21, Try.ntmps21
  go_wp2
  go_end0
  exact ⟨rfl, H.out.set2 y, grown_set _ _ _ _⟩

set_option maxHeartbeats 400000 in
theorem why_calls (g : Nat) (v : Value) (a y : Int) (w : World) (h : RD w g v a y) :
    Calls Try.prog 16 #[.pointer (some ⟨g, 0, none⟩)] w fun e w' => e = .returned (.int .i64 y) ∧ w = w' := by
  have h2 := h.c2
  go_enter Try.func16, Try.ntmps16
  go_wp2
  go_ret
  exact ⟨rfl, rfl⟩

set_option maxHeartbeats 400000 in
theorem new_calls (v : Value) (w : World) (A : Option Addr) (n c : Nat) (hv : v = .slice A n c) :
    Calls Try.prog 12 #[v] w fun e w' => e = .returned (.pointer (some ⟨w.heap.size, 0, none⟩)) ∧ RD w' w.heap.size v 0 0 ∧ Below w.heap.size w w' := by
  subst hv
  go_enter Try.func12, Try.ntmps12
  go_wp2
  go_ret
  exact ⟨rfl, heap_new _ _, (Below.refl _ _).alloc (Nat.le_refl _) _⟩

theorem dig_top (n : Nat) (h : 1 < (dig n).length) : (dig n).getD ((dig n).length - 1) 0 ≠ 0 := by
  induction n using Nat.strongRecOn with
  | _ n ih =>
    by_cases hs : n < 128
    · rw [dig_small hs] at h; simp at h
    · rw [dig_big hs] at h ⊢
      simp only [List.length_cons, Nat.add_sub_cancel]
      obtain ⟨m, hm⟩ : ∃ m, (dig (n / 128)).length = m + 1 := ⟨(dig (n / 128)).length - 1, by have := List.length_pos_iff.2 (dig_ne (n / 128)); omega⟩
      rw [hm, List.getD_cons_succ]
      by_cases h2 : 1 < (dig (n / 128)).length
      · have := ih (n / 128) (by omega) h2
        rwa [hm] at this
      · have hm0 : m = 0 := by omega
        subst hm0
        by_cases h3 : n / 128 < 128
        · rw [dig_small h3]; simp; omega
        · rw [dig_big h3] at hm
          have := List.length_pos_iff.2 (dig_ne (n / 128 / 128))
          rw [List.length_cons] at hm; omega

theorem enc_get (n t : Nat) (ht : t < (dig n).length) : (enc n).getD t 0 = (((dig n).getD ((dig n).length - 1 - t) 0 : Nat) : Int) + (if t + 1 < (dig n).length then 128 else 0) := by
  unfold enc
  have hne := dig_ne n
  generalize dig n = ds at *
  cases ds with
  | nil => exact absurd rfl hne
  | cons d r =>
    simp only [List.tail_cons, List.headD_cons, List.length_cons] at *
    by_cases h : t < r.length
    · rw [if_pos (by omega), List.getD_eq_getElem?_getD, List.getElem?_append_left (by simpa using h), List.getElem?_map, List.getElem?_reverse h]
      rw [List.getD_eq_getElem?_getD, show r.length + 1 - 1 - t = (r.length - 1 - t) + 1 by omega, List.getElem?_cons_succ, List.getElem?_eq_getElem (by omega)]
      rfl
    · have : t = r.length := by omega
      subst this
      rw [if_neg (by omega), List.getD_eq_getElem?_getD, List.getElem?_append_right (by simp)]
      simp

theorem top_val (n L t : Nat) (h : t < L) : n / 128 ^ (L - (t + 1)) = n / 128 ^ (L - t) * 128 + n / 128 ^ (L - 1 - t) % 128 := by
  rw [show L - t = (L - 1 - t) + 1 by omega, show L - (t + 1) = L - 1 - t by omega, Nat.pow_succ, ← Nat.div_div_eq_div_mul]
  omega

theorem and8_127 (d : Nat) (h : d < 128) : bits .and .u8 ((d : Int) + 128) 127 = d := by
  have h1 := bits_mask .u8 8 (by decide) wraps_u8 7 (by decide) ((d : Int) + 128) (by omega) (by omega)
  have h2 : bits .and .u8 ((d : Int) + 128) 127 = ((d : Int) + 128) % 128 := h1
  rw [h2]; omega
theorem or_join (m d : Nat) (hm : m < 2 ^ 55) (hd : d < 128) : bits .or .i64 ((m : Int) * 128) (d : Int) = m * 128 + d := by
  have e : (2 : Nat) ^ 55 = 36028797018963968 := by decide
  refine bits_join .i64 63 (by decide) wraps_i64 7 ((m : Int) * 128) d (by omega) ?_ ?_ (by omega) ?_ ?_
  · show ((m : Int) * 128) % 128 = 0
    omega
  · show (m : Int) * 128 < 9223372036854775808
    omega
  · show (d : Int) < 128
    omega
  · show (d : Int) < 9223372036854775808
    omega

set_option maxHeartbeats 1000000 in
set_option maxRecDepth 100000 in
theorem num_ok (g b off c n p : Nat) (B rest : List Int) (w : World) (h : RD w g (.slice (some ⟨b, off, none⟩) B.length c) p 0) (hB : Bys w b off B) (hgb : b ≠ g) (hn : n < 2 ^ 62) (hp : B.drop p = enc n ++ rest) (hl : B.length ≤ 1000000) :
    Calls Try.prog 20 #[.pointer (some ⟨g, 0, none⟩)] w (RetR w g (.slice (some ⟨b, off, none⟩) B.length c) n (p + (enc n).length : Nat) 0) := by
  have c0 := h.c0
  have c1 := h.c1
  have c2 := h.c2
  have f1 := h.fr 1
  have HR := Lib.hid h
  have HB := Lib.hid hB
  have HP := Lib.hid hp
  have hL9 := dig_len 9 n (by have e2 : (128 : Nat) ^ 9 = 9223372036854775808 := by decide
                              rw [two62] at hn; omega) (by omega)
  have hpl : p + (dig n).length ≤ B.length := by
    have := congrArg List.length hp
    rw [List.length_drop, List.length_append, enc_len] at this
    have := List.length_pos_iff.2 (dig_ne n)
    omega
  have hn62 := Lib.hid hn
  clear h hB hp hn
  have hbyte : ∀ t, t < (dig n).length → B.getD (p + t) 0 = (((dig n).getD ((dig n).length - 1 - t) 0 : Nat) : Int) + (if t + 1 < (dig n).length then 128 else 0) := by
    intro t ht
    rw [← enc_get n t ht, List.getD_eq_getElem?_getD, List.getD_eq_getElem?_getD, ← List.getElem?_drop, HP.out, List.getElem?_append_left (by rw [enc_len]; exact ht)]
  have HY := Lib.hid hbyte
  clear hbyte
  go_enter Try.func20, Try.ntmps20
  go_wp2
  go_loop [3, 4, 28, 38, 61] (fun nv iv _ _ _ => ∃ t : Nat, t < (dig n).length ∧ iv = .int .i64 (p + t : Nat) ∧ ∃ m : Nat, nv = .int .i64 m ∧ Hid (m = n / 128 ^ ((dig n).length - t)) ) (fun _ iv _ _ _ => p + 10 - (intOf iv).toNat)
  case atStart => exact ⟨0, List.length_pos_iff.2 (dig_ne n), rfl, 0, rfl, by
    have := dig_more n (dig n).length (List.length_pos_iff.2 (dig_ne n))
    have h0 : ¬ 0 < n / 128 ^ (dig n).length := fun h => Nat.lt_irrefl _ (this.1 h)
    rw [Hid, Nat.sub_zero]; exact (Nat.eq_zero_of_not_pos h0).symm⟩
  case round =>
    obtain ⟨t, ht, rfl, m, rfl, hm⟩ := hrel
    have hcell := HB.out (p + t) (by omega)
    have hy := HY.out t ht
    obtain ⟨d, hd⟩ : ∃ d, Hid ((dig n).getD ((dig n).length - 1 - t) 0 = d) := ⟨_, rfl⟩
    have hd128 : d < 128 := by
      rw [← hd.out, List.getD_eq_getElem?_getD, List.getElem?_eq_getElem (by omega)]
      exact dig_lt n _ (List.getElem_mem _)
    rw [hd.out] at hy
    have hm55 : m < 2 ^ 55 := by
      have e1 : (2 : Nat) ^ 62 = 2 ^ 55 * 128 := by decide
      have h1 : n / 128 < 2 ^ 55 := Nat.div_lt_of_lt_mul (by have := hn62.out; omega)
      have h2 : n / 128 ^ ((dig n).length - t) ≤ n / 128 := Nat.div_le_div_left (by
        calc 128 = 128 ^ 1 := by simp
          _ ≤ 128 ^ ((dig n).length - t) := Nat.pow_le_pow_right (by omega) (by omega)) (by omega)
      rw [hm.out]; omega
    have hnext := top_val n (dig n).length t ht
    rw [← hm.out, ← dig_get n ((dig n).length - 1 - t) (by omega), hd.out] at hnext
    have Hnext := Lib.hid hnext
    have hor := or_join m d hm55 hd128
    have hmI : ((m : Nat) : Int) < 36028797018963968 := by have e : (2 : Nat) ^ 55 = 36028797018963968 := by decide
                                                           omega
    have hmh := Lib.hid hm55
    clear hnext hm hm55
    by_cases hlast : t + 1 < (dig n).length
    · rw [if_pos hlast] at hy
      rw [hy] at hcell
      have hand := and8_127 d hd128
      have htop := dig_top n (by omega)
      generalize hM : ((m : Nat) : Int) = M at *
      have HM := Lib.hid hM
      have hM0 : 0 ≤ M := by omega
      by_cases ht0 : t = 0
      · subst ht0
        have hd0 : d ≠ 0 := by rw [← hd.out, Nat.sub_zero]; exact htop
        have hne : (((d : Int) + 128) == 128) = false := by rw [beq_eq_false_iff_ne]; omega
        clear htop hM hy
        rw [Nat.add_zero] at hcell
        go_wp2
        go_round
        case rel => exact ⟨1, hlast, by go_num, m * 128 + d, by rw [← HM.out]; go_num, Hnext.out.symm⟩
        case measure => simp [intOf]
      · have hne : (((p + t : Nat) : Int) == (p : Int)) = false := by rw [beq_eq_false_iff_ne]; omega
        clear htop hM hy
        go_wp2
        go_round
        case rel => exact ⟨t + 1, hlast, by go_num, m * 128 + d, by rw [← HM.out]; go_num, Hnext.out.symm⟩
        case measure => simp [intOf]; omega
    · rw [if_neg hlast, Int.add_zero] at hy
      rw [hy] at hcell
      have hend : m * 128 + d = n := by
        have := Hnext.out
        rw [show (dig n).length - (t + 1) = 0 by omega, Nat.pow_zero, Nat.div_one] at this
        exact this.symm
      have Hend := Lib.hid hend
      have HL := Lib.hid (enc_len n)
      generalize hM : ((m : Nat) : Int) = M at *
      have HM := Lib.hid hM
      have hM0 : 0 ≤ M := by omega
      by_cases ht0 : t = 0
      · subst ht0
        have hne : ((d : Int) == 128) = false := by rw [beq_eq_false_iff_ne]; omega
        clear hM hy hend
        rw [Nat.add_zero] at hcell
        go_wp2
        go_ret
        refine ⟨ret_int (by rw [← HM.out, ← Hend.out]; push_cast; rfl), ?_, grown_set _ _ _ _⟩
        have := HR.out.set1 (p + 1 : Int)
        rw [HL.out, show ((p : Int) + ((dig n).length : Int)) = (p : Int) + 1 by omega]
        exact this
      · have hne : (((p + t : Nat) : Int) == (p : Int)) = false := by rw [beq_eq_false_iff_ne]; omega
        clear hM hy hend
        go_wp2
        go_ret
        refine ⟨ret_int (by rw [← HM.out, ← Hend.out]; push_cast; rfl), ?_, grown_set _ _ _ _⟩
        have := HR.out.set1 ((p : Int) + (t : Int) + 1)
        rw [HL.out, show ((p : Int) + ((dig n).length : Int)) = (p : Int) + (t : Int) + 1 by omega]
        exact this
end Go.Proofs.Ytegajejaadkkiab
