import Derived.Test.YtegajejaadkkiabG
namespace Go.Proofs.Ytegajejaadkkiab
open Go.RowKit

set_option maxHeartbeats 1000000 in
set_option maxRecDepth 100000 in
theorem num_short (g b off c n p t0 : Nat) (B : List Int) (w : World) (h : RD w g (.slice (some ⟨b, off, none⟩) B.length c) p 0) (hB : Bys w b off B) (hn : n < 2 ^ 62) (ht0 : t0 < (dig n).length) (hp6 : p ≤ 1000000) (hp : B.drop p = (enc n).take t0) (hl : B.length ≤ 1000000) :
    Calls Try.prog 20 #[.pointer (some ⟨g, 0, none⟩)] w (RetR w g (.slice (some ⟨b, off, none⟩) B.length c) 0 p 30) := by
  have c0 := h.c0
  have c1 := h.c1
  have c2 := h.c2
  have f1 := h.fr 1
  have HR := Lib.hid h
  have HB := Lib.hid hB
  have HP := Lib.hid hp
  have hL9 := dig_len 9 n (by have e2 : (128 : Nat) ^ 9 = 9223372036854775808 := by decide
                              rw [two62] at hn; omega) (by omega)
  have hpl : p + t0 = B.length ∨ (t0 = 0 ∧ B.length ≤ p) := by
    have := congrArg List.length hp
    rw [List.length_drop, List.length_take, enc_len] at this
    omega
  have hn62 := Lib.hid hn
  clear h hB hp hn
  have hbyte : ∀ t, t < t0 → B.getD (p + t) 0 = (((dig n).getD ((dig n).length - 1 - t) 0 : Nat) : Int) + (if t + 1 < (dig n).length then 128 else 0) := by
    intro t ht
    rw [← enc_get n t (by omega), List.getD_eq_getElem?_getD, List.getD_eq_getElem?_getD, ← List.getElem?_drop, HP.out, List.getElem?_take, if_pos ht]
  have HY := Lib.hid hbyte
  clear hbyte
  go_enter Try.func20, Try.ntmps20
  go_wp2
  go_loopw [3, 4, 28, 38, 61] (fun nv iv _ _ _ wr => (∃ t : Nat, t ≤ t0 ∧ iv = .int .i64 (p + t : Nat) ∧ wr = w ∧ ∃ m : Nat, nv = .int .i64 m ∧ Hid (m = n / 128 ^ ((dig n).length - t))) ∨ (iv = .int .i64 (p + t0 + 1 : Nat) ∧ RD wr g (.slice (some ⟨b, off, none⟩) B.length c) p 30 ∧ w.grownBy wr (some g))) (fun _ iv _ _ _ _ => p + 12 - (intOf iv).toNat)
  case atStart => exact .inl ⟨0, Nat.zero_le _, rfl, rfl, 0, rfl, by
    have := dig_more n (dig n).length (List.length_pos_iff.2 (dig_ne n))
    have h0 : ¬ 0 < n / 128 ^ (dig n).length := fun h => Nat.lt_irrefl _ (this.1 h)
    rw [Hid, Nat.sub_zero]; exact (Nat.eq_zero_of_not_pos h0).symm⟩
  case round =>
    rcases hrel with ⟨t, htle, rfl, rfl, m, rfl, hm⟩ | ⟨rfl, hR2, hgr⟩
    rotate_left
    · have c22 := hR2.c2
      clear c0 c1 c2 f1
      go_wp2
      go_ret
      exact ⟨rfl, hR2, hgr⟩
    by_cases htt : t = t0
    · subst htt
      have hge : B.length ≤ p + t := by omega
      go_wp2_with fail
      refine (fail_calls g _ p 30 wr HR.out).mono ?_
      rintro e w2 ⟨rfl, hR2, hgr⟩
      go_wp2
      go_roundw
      case rel => exact .inr ⟨by go_num, hR2, hgr⟩
      case measure => simp [intOf]; omega
    have ht : t < t0 := by omega
    have hlast : t + 1 < (dig n).length := by omega
    have hcell := HB.out (p + t) (by omega)
    have hy := HY.out t ht
    have ht : t < (dig n).length := by omega
    obtain ⟨d, hd⟩ : ∃ d, Hid ((dig n).getD ((dig n).length - 1 - t) 0 = d) := ⟨_, rfl⟩
    have hd128 : d < 128 := by
      rw [← hd.out, List.getD_eq_getElem?_getD, List.getElem?_eq_getElem (by omega)]
      exact dig_lt n _ (List.getElem_mem _)
    rw [hd.out] at hy
    have hm55 : m < 2 ^ 55 := by
      have e1 : (2 : Nat) ^ 62 = 2 ^ 55 * 128 := by decide
      have h1 : n / 128 < 2 ^ 55 := Nat.div_lt_of_lt_mul (by have := hn62.out; omega)
      have h2 : n / 128 ^ ((dig n).length - t) ≤ n / 128 := Nat.div_le_div_left (by
        calc 128 = 128 ^ 1 := by simp
          _ ≤ 128 ^ ((dig n).length - t) := Nat.pow_le_pow_right (by omega) (by omega)) (by omega)
      rw [hm.out]; omega
    have hnext := top_val n (dig n).length t ht
    rw [← hm.out, ← dig_get n ((dig n).length - 1 - t) (by omega), hd.out] at hnext
    have Hnext := Lib.hid hnext
    have hor := or_join m d hm55 hd128
    have hmI : ((m : Nat) : Int) < 36028797018963968 := by have e : (2 : Nat) ^ 55 = 36028797018963968 := by decide
                                                           omega
    have hmh := Lib.hid hm55
    clear hnext hm hm55
    rw [if_pos hlast] at hy
    rw [hy] at hcell
    have hand := and8_127 d hd128
    have htop := dig_top n (by omega)
    generalize hM : ((m : Nat) : Int) = M at *
    have HM := Lib.hid hM
    have hM0 : 0 ≤ M := by omega
    by_cases ht0 : t = 0
    · subst ht0
      have hd0 : d ≠ 0 := by rw [← hd.out, Nat.sub_zero]; exact htop
      have hne : (((d : Int) + 128) == 128) = false := by rw [beq_eq_false_iff_ne]; omega
      clear htop hM hy
      rw [Nat.add_zero] at hcell
      go_wp2
      go_roundw
      case rel => exact .inl ⟨1, by omega, by go_num, trivial, m * 128 + d, by rw [← HM.out]; go_num, Hnext.out.symm⟩
      case measure => simp [intOf]
    · have hne : (((p + t : Nat) : Int) == (p : Int)) = false := by rw [beq_eq_false_iff_ne]; omega
      clear htop hM hy
      go_wp2
      go_roundw
      case rel => exact .inl ⟨t + 1, by omega, by go_num, trivial, m * 128 + d, by rw [← HM.out]; go_num, Hnext.out.symm⟩
      case measure => simp [intOf]; omega
end Go.Proofs.Ytegajejaadkkiab
