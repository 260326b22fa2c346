import Derived.Test.YtegajejaadkkiaaP
import Derived.Laws.AppendOwn
namespace Go.Proofs.Ytegajejaadkkiaa
open Go.RowKit

theorem info34 : (Try.prog.info? 34).map (fun i => (i.zero, i.size, i.bytes)) = some (some (.agg #[.int .i64 0, .int .i64 0, .int .i64 0, .int .i64 0, .int .i64 0, .string ⟨#[]⟩, .string ⟨#[]⟩, .string ⟨#[]⟩, .int .i64 0]), 9, 96) := by kernel_rfl

def mn (a b : Int) : Int := if b < a then b else a
theorem mn_def (a b : Int) : mn a b = min a b := by unfold mn; split <;> omega
theorem min2_mn (k k' : IntKind) (x y : Int) : Builtin.min2 (.int k x) (.int k' y) = pure (.int k (mn x y)) := by
  simp only [Builtin.min2]; unfold mn; split <;> rfl
theorem min_two (ats : Array TypeId) (ty : TypeId) (a b : Value) : Builtin.min_ ats ty #[a, b] = (Builtin.min2 a b >>= fun s => pure s) := by
  simp only [Builtin.min_, List.foldlM_cons, List.foldlM_nil]

def cells9 (p : Int × Int × Int) : List Value := [.int .i64 p.1, .int .i64 p.2.1, .int .i64 p.2.2, .int .i64 0, .int .i64 0, .string ⟨#[]⟩, .string ⟨#[]⟩, .string ⟨#[]⟩, .int .i64 (-1)]

theorem take_snoc {l : List (Int × Int)} {k : Nat} (h : k < l.length) : l.take (k + 1) = l.take k ++ [l.getD k (0, 0)] := by
  rw [List.take_succ_eq_append_getElem h, List.getD_eq_getElem?_getD, List.getElem?_eq_getElem h]; rfl

theorem Only.grown {g : Nat} {w w' : World} (h : Only g w w') : w.grownBy w' (some g) := ⟨h.os, h.tape, h.output, h.size, fun k hk hn => h.block k hk (fun e => hn (by rw [e]))⟩
theorem grown_only {g : Nat} {w w' : World} (h : Below w.heap.size w w') : Only g w w' := ⟨h.os, h.tape, h.output, h.size, fun k hk _ => h.block k hk⟩

theorem IsR.grown {g : Nat} {w w' : World} {S : Nat → Int} {row : Option Nat} (h : IsR w g S) (hg : w.grownBy w' row) (hne : some g ≠ row) : IsR w' g S := by
  have hlt := h.lt
  obtain ⟨cs, h1, h2⟩ := h
  exact ⟨cs, (hg.block g hlt hne).trans h1, h2⟩

theorem new_cells (w : World) (cs : Array Value) (e : TypeId) (j : Nat) (u : Value) (h : cs.toList[j]? = some u) : (w.alloc (.cells cs e)).cell? ((⟨w.heap.size, 0, none⟩ : Addr).add j) = some u := by
  have e : (⟨w.heap.size, 0, none⟩ : Addr).add j = ⟨w.heap.size, j, none⟩ := by
    unfold Addr.add; split
    · rename_i hj; rw [hj]
    · simp
  rw [e]
  simp only [World.cell?, heap_new]
  simpa using h

theorem own_ne {w : World} {base g n : Nat} {e : TypeId} {size : Nat} {v : Value} {xs : List Value} (h : w.ownsRow base e size v n xs) (hg : g < base) : some g ≠ v.ownBlock := by
  intro e
  have := h.lt g e.symm
  omega

theorem steps_snoc {l : List (Int × Int)} {k : Nat} {x y n : Int} (h : l.take (k + 1) = l.take k ++ [(x, y)]) (hn : x % 5 = n) :
    (stepsOf (l.take (k + 1))).flatMap cells9 = (stepsOf (l.take k)).flatMap cells9 ++ (cells9 (10, n - 5, y % 65) ++ cells9 (17, 0, 0)) := by
  rw [h]
  simp [stepsOf, List.flatMap_append, hn]

theorem runG_snoc {l : List (Int × Int)} {k n : Nat} {x y : Int} {S S' : Nat → Int} (h : l.take (k + 1) = l.take k ++ [(x, y)]) (hn : x % 5 = n) (hS : S' = runG (l.take k) S) :
    goS S' n (y % 65) 5 = runG (l.take (k + 1)) S := by
  rw [h, hS]
  unfold runG
  rw [List.foldl_append]
  simp [hn]

theorem ahead_nat (g : Nat) (a b : Nat) (S : Nat → Int) (w : World) (hI : IsR w g S) (ha5 : a < 5) (hb5 : b < 5) :
    Calls Try.prog 7 #[.pointer (some ⟨g, 0, none⟩), .int .i64 a, .int .i64 b] w fun e w' => e = .returned (.int .i64 (S (26 + a * 5 + b))) ∧ w = w' := by
  have := ahead_calls g a b S w hI (by omega) (by omega) (by omega) (by omega)
  simpa using this

def WW (S : Nat → Int) (slack : Int) (m a b : Nat) : Prop := (∀ x, x < a → x < m → ∀ y, y < m → S (26 + x * 5 + y) ≤ slack) ∧ (a < m → ∀ y, y < b → y < m → S (26 + a * 5 + y) ≤ slack)

theorem WW_skip {S : Nat → Int} {slack : Int} {m a b : Nat} {bw : Bool} (h : bw = true ↔ WW S slack m a b) (hn : ¬ (a < m ∧ b < m)) : bw = true ↔ WW S slack m a (b + 1) := by
  rw [h]; unfold WW
  constructor
  · rintro ⟨h1, h2⟩
    refine ⟨h1, fun ha y hy hym => h2 ha y ?_ hym⟩
    rcases Nat.lt_succ_iff_lt_or_eq.1 hy with h | rfl
    · exact h
    · exact absurd ⟨ha, hym⟩ hn
  · rintro ⟨h1, h2⟩
    exact ⟨h1, fun ha y hy hym => h2 ha y (by omega) hym⟩

theorem WW_step {S : Nat → Int} {slack : Int} {m a b : Nat} {bw : Bool} (h : bw = true ↔ WW S slack m a b) (ha : a < m) (hb : b < m) : (bw && decide (S (26 + a * 5 + b) ≤ slack)) = true ↔ WW S slack m a (b + 1) := by
  rw [Bool.and_eq_true, h, decide_eq_true_iff]; unfold WW
  constructor
  · rintro ⟨⟨h1, h2⟩, h3⟩
    refine ⟨h1, fun ha y hy hym => ?_⟩
    rcases Nat.lt_succ_iff_lt_or_eq.1 hy with h | rfl
    · exact h2 ha y h hym
    · exact h3
  · rintro ⟨h1, h2⟩
    exact ⟨⟨h1, fun ha y hy hym => h2 ha y (by omega) hym⟩, h2 ha b (by omega) hb⟩

theorem WW_next {S : Nat → Int} {slack : Int} {m a k : Nat} {bw : Bool} (h : bw = true ↔ WW S slack m a k) (hk : m ≤ k) : bw = true ↔ WW S slack m (a + 1) 0 := by
  rw [h]; unfold WW
  constructor
  · rintro ⟨h1, h2⟩
    refine ⟨fun x hx hxm y hy => ?_, fun _ y hy => by omega⟩
    rcases Nat.lt_succ_iff_lt_or_eq.1 hx with h | rfl
    · exact h1 x h hxm y hy
    · exact h2 hxm y (by omega) hy
  · rintro ⟨h1, h2⟩
    exact ⟨fun x hx hxm y hy => h1 x (by omega) hxm y hy, fun ha y hy hym => h1 a (by omega) ha y hym⟩

theorem WW_end {S : Nat → Int} {slack : Int} {m a : Nat} {bw : Bool} (h : bw = true ↔ WW S slack m a 0) (hk : m ≤ a) : bw = inB S slack m := by
  rw [Bool.eq_iff_iff, h]; unfold WW inB
  rw [decide_eq_true_iff]
  constructor
  · rintro ⟨h1, _⟩ x hx y hy
    exact h1 x (by omega) hx y hy
  · intro h1
    exact ⟨fun x _ hxm y hy => h1 x hxm y hy, fun _ y hy => by omega⟩

theorem steps_len {l : List (Int × Int)} : 2 * l.length = (stepsOf l).length := by
  induction l with
  | nil => rfl
  | cons x r ih => 
    have : stepsOf (x :: r) = (10, x.1 % 5 - 5, x.2 % 65) :: (17, 0, 0) :: stepsOf r := rfl
    rw [this]
    simp only [List.length_cons]
    omega

theorem steps_fine {l : List (Int × Int)} (_h : Bytes l) : Fine (stepsOf l) := by
  intro i hi
  have hm : (stepsOf l).getD i (0, 0, 0) ∈ stepsOf l := by
    rw [List.getD_eq_getElem?_getD, List.getElem?_eq_getElem hi]
    exact List.getElem_mem hi
  generalize (stepsOf l).getD i (0, 0, 0) = p at *
  unfold stepsOf at hm
  rw [List.mem_flatMap] at hm
  obtain ⟨x, _, hx⟩ := hm
  simp only [List.mem_cons, List.not_mem_nil, or_false] at hx
  rcases hx with rfl | rfl
  · show -5 ≤ x.1 % 5 - 5 ∧ x.1 % 5 - 5 ≤ 0 ∧ 0 ≤ x.2 % 65 ∧ x.2 % 65 ≤ 64
    omega
  · exact ⟨by decide, by decide, by decide, by decide⟩

attribute [local go_sem] max2_mx max_two min2_mn min_two in
set_option maxHeartbeats 2000000 in
set_option maxRecDepth 100000 in
theorem skews_calls (rho slack nodes : Int) (A : Option Addr) (c : Nat) (l0 : List (Int × Int)) (w : World) (h1 : 0 ≤ rho) (h2 : rho ≤ 255) (h3 : 0 ≤ slack) (h4 : slack ≤ 255) (h5 : 0 ≤ nodes) (h6 : nodes ≤ 255)
    (hc : l0.length ≤ c) (_hm : c ≤ maxLen) (hP : SlP w A (l0.take 30)) (hBy : Bytes (l0.take 30)) :
    Calls Try.prog 3 #[.int .u8 rho, .int .u8 slack, .int .u8 nodes, .slice A l0.length c] w fun e w' => e = .returned (.bool true) ∧ Below w.heap.size w w' := by
  unfold maxLen at _hm
  obtain ⟨i34, hi, hz0, hz1, hz2⟩ := info_parts info34
  have hl : (l0.take 30).length ≤ 30 := by simp; omega
  have hlc : (l0.take 30).length ≤ c := by simp; omega
  have hmin : mn l0.length 30 = ((l0.take 30).length : Int) := by rw [mn_def, List.length_take]; omega
  generalize l0.take 30 = l at *
  generalize l0.length = n0 at *
  obtain ⟨r, hr⟩ : ∃ r : Int, 1 + rho % 4 = r := ⟨_, rfl⟩
  obtain ⟨m, hmm⟩ : ∃ m : Nat, 1 + nodes % 5 = (m : Int) := ⟨(1 + nodes % 5).toNat, by omega⟩
  have hr1 : 1 ≤ r := by omega
  have hr4 : r ≤ 4 := by omega
  have hm1 : 1 ≤ m := by omega
  have hm5 : m ≤ 5 := by omega
  go_enter Try.func3, Try.ntmps3
  go_wp2_with fail
  refine (new_calls r _ hr1 hr4).mono ?_
  rintro e w1 ⟨rfl, hB1, hI1⟩
  have hsz : w.heap.size + 1 < w1.heap.size := by have := hI1.lt; simpa using this
  have hBw : Below w.heap.size w w1 := ((Below.refl _ _).alloc (Nat.le_refl _) _).trans (hB1.mono (by simp))
  have hbox : w1.cell? ⟨w.heap.size, 0, none⟩ = some (.slice A l.length c) := by
    rw [hB1.cell (p := ⟨w.heap.size, 0, none⟩) (by simp)]
    go_simp
  have hI1' : IsR w1 (w.heap.size + 1) (S0 r) := by simpa using hI1
  clear hI1 hB1
  go_wp2
  go_loopw [12, 14, 42] (fun v _ i wr => ∃ k : Nat, k ≤ l.length ∧ i = .int .i64 k ∧ wr.ownsRow (w.heap.size + 2) 34 9 v (2 * k) ((stepsOf (l.take k)).flatMap cells9) ∧ (∃ S, IsR wr (w.heap.size + 1) S ∧ Hid (S = runG (l.take k) (S0 r)) ∧ Hid (∀ j, j < 56 → 0 ≤ S j ∧ S j ≤ 4 + 384 * k) ∧ Hid (S 0 = r)) ∧ wr.cell? ⟨w.heap.size, 0, none⟩ = some (.slice A l.length c) ∧ Below w.heap.size w wr ∧ w.heap.size + 2 ≤ wr.heap.size) (fun _ _ i _ => l.length - (intOf i).toNat)
  case atStart => exact ⟨0, by omega, rfl, World.ownsRow_nil _ _ _ _, ⟨_, hI1', rfl, bd_mono (S0_bd (by omega) hr4) (by omega), rfl⟩, hbox, hBw, by omega⟩
  case round =>
    obtain ⟨k, hk, rfl, hown, ⟨S, hI, HS, HSb, HS0⟩, hbx, hB, hsz2⟩ := hrel
    by_cases hlt : k < l.length
    · rcases hP with hP | ⟨b, off, rfl, hbl, hP⟩
      · rw [hP] at hlt; simp at hlt
      · obtain ⟨hx, hy⟩ := hP k hlt
        have hx' := (hB.cell (p := ⟨b, _, none⟩) hbl).trans hx
        have hy' := (hB.cell (p := ⟨b, _, none⟩) hbl).trans hy
        clear hx hy
        obtain ⟨hx0, hx1, hy0, hy1⟩ := hBy k hlt
        have HT := Lib.hid (take_snoc hlt)
        generalize l.getD k (0, 0) = p at *
        obtain ⟨x, y⟩ := p
        simp only at hx' hy' hx0 hx1 hy0 hy1
        obtain ⟨n, hn⟩ : ∃ n : Nat, x % 5 = (n : Int) := ⟨(x % 5).toNat, by omega⟩
        have hn5 : n < 5 := by omega
        have hb100 := Lib.hid (bd_mono HSb.out (show 4 + 384 * (k : Int) ≤ 100000 by omega))
        have hs02 := Lib.hid (show S 0 ≤ 1000 by have := HS0.out; omega)
        have hyh0 : 0 ≤ y % 65 := by omega
        have hyh1 : y % 65 ≤ 64 := by omega
        go_wp2_with fail
        refine (go_calls _ n (y % 65) S _ (hI.below ((Below.refl _ _).alloc (Nat.le_refl _) _) hI.lt) hn5 hyh0 hyh1 hb100.out hs02.out).mono ?_
        rintro e w2 ⟨rfl, hO2, hI2⟩
        have hne : wr.heap.size ≠ w.heap.size + 1 := by omega
        have hxx : w2.cell? ⟨wr.heap.size, 0, none⟩ = some (.int .u8 x) := by
          rw [hO2.lt _ (by simp) hne]; go_simp
        have hyy : w2.cell? ⟨wr.heap.size, 1, none⟩ = some (.int .u8 y) := by
          rw [hO2.lt _ (by simp) hne]; go_simp
        have hsz3 : wr.heap.size + 1 ≤ w2.heap.size := by have := hO2.size; simpa using this
        have hown2 : w2.ownsRow (w.heap.size + 2) 34 9 u12 (2 * k) ((stepsOf (l.take k)).flatMap cells9) := by
          refine (hown.alloc _).kept hO2.grown ?_
          cases e : u12.ownBlock with
          | none => exact .inl rfl
          | some q => exact .inr (fun h => by have := hown.lt q e; cases h; omega)
        have hB2 : Below w.heap.size w w2 := Only.below (hB.alloc hB.size _) (by simp; omega) (by omega) hO2
        have hbx2 : w2.cell? ⟨w.heap.size, 0, none⟩ = some (.slice (some ⟨b, off, none⟩) l.length c) := by
          rw [hO2.lt _ (by simp; omega) (by omega), ← hbx]
          exact ((Below.refl wr.heap.size wr).alloc (Nat.le_refl _) _).cell (by simp; omega)
        go_wp2_with (at_builtin; refine wpList_append_own _ rfl _ _ 25 rfl (w.heap.size + 2) 34 i34 _ 9 96 Try.underlying25 hi hz0 hz1 hz2 rfl (by decide) _ _ _ rfl (hown2.alloc _) ⟨w2.heap.size, 0, none⟩ 2 2 (cells9 (10, n - 5, y % 65) ++ cells9 (17, 0, 0)) rfl rfl ?c1 ?c2 ?c3 ?c4 ?c5 ?_)
        case c1 => exact new_cells _ _ _
        case c2 => simp [cells9, Value.oneCell']
        case c3 => unfold maxLen; omega
        case c4 => omega
        case c5 => simp; omega
        intro v' w3 hown3 hgr3 _
        have hown3' := Lib.hid hown3
        clear hown3
        go_wp2
        go_roundw
        case rel => 
          have hgr : w2.grownBy w3 u12.ownBlock := (World.grownBy_alloc _ _ _).trans hgr3
          refine ⟨k + 1, by omega, by go_num, ?_, ⟨_, hI2.grown hgr (own_ne hown2 (by omega)), runG_snoc HT.out hn HS.out, ?_, ?_⟩, ?_, ?_, ?_⟩
          · rw [steps_snoc HT.out hn]; exact hown3'.out
          · refine bd_mono (goS_bd hn5 hyh0 HSb.out 5 (by omega)) (by push_cast; omega)
          · rw [Hid, goS_zero]; exact HS0.out
          · exact hgr.cell hbx2 (own_ne hown2 (by simp))
          · exact hB2.grown hgr hB2.size (fun q hq => by have := (hown2.lt q hq).1; omega)
          · have := hgr.size; omega
        case measure => simp [intOf]; omega
    · obtain rfl : k = l.length := by omega
      rw [List.take_length] at hown HS
      have hx2 : ∀ x ∈ l, 0 ≤ x.2 := by
        intro x hx
        obtain ⟨i, hi, e⟩ := List.getElem_of_mem hx
        have := (hBy i hi).2.2.1
        rw [List.getD_eq_getElem?_getD, List.getElem?_eq_getElem hi] at this
        rw [← e]; exact this
      have HK := Lib.hid (fun a b (ha : a < 5) (hb : b < 5) => by rw [HS.out]; exact most_row (r := r) (by omega) hx2 ha hb : ∀ a b : Nat, a < 5 → b < 5 → S (26 + a * 5 + b) = outT (gstep mnode r a b) l 0)
      clear HS HSb HS0
      have hx2 := Lib.hid hx2
      go_wp2
      have hB1 := hB
      have hs1 := hsz2
      go_loopw [8, 16, 18, 19, 20, 73, 76] (fun _ bv _ _ _ i _ wr => ∃ a : Nat, a ≤ 5 ∧ i = .int .i64 a ∧ (∃ bw : Bool, bv = .bool bw ∧ Hid (bw = true ↔ WW S slack m a 0)) ∧ IsR wr (w.heap.size + 1) S ∧ wr.ownsRow (w.heap.size + 2) 34 9 u12 (2 * l.length) ((stepsOf l).flatMap cells9) ∧ wr.cell? ⟨w.heap.size, 0, none⟩ = some (.slice A l.length c) ∧ Below w.heap.size w wr ∧ w.heap.size + 2 ≤ wr.heap.size) (fun _ _ _ _ _ i _ _ => 5 - (intOf i).toNat)
      case atStart => exact ⟨0, by omega, rfl, ⟨true, rfl, by simp [Hid, WW]⟩, hI, hown, hbx, hB, hsz2⟩
      case round =>
        clear hI hown hbx hB hsz2
        obtain ⟨a, ha, rfl, ⟨bw, rfl, HW⟩, hI, hown, hbx, hB, hsz2⟩ := hrel
        by_cases hlta : a < 5
        · have hda : decide ((a : Int) < 5) = true := by simp; omega
          go_wp2
          obtain ⟨wo, rfl⟩ : ∃ wo : World, wo = wr := ⟨_, rfl⟩
          go_loopw [8, 16, 19, 20, 76] (fun _ bv _ _ j wr => ∃ b : Nat, b ≤ 5 ∧ j = .int .i64 b ∧ (∃ bw : Bool, bv = .bool bw ∧ Hid (bw = true ↔ WW S slack m a b)) ∧ IsR wr (w.heap.size + 1) S ∧ wr.ownsRow (w.heap.size + 2) 34 9 u12 (2 * l.length) ((stepsOf l).flatMap cells9) ∧ wr.cell? ⟨w.heap.size, 0, none⟩ = some (.slice A l.length c) ∧ Below w.heap.size w wr ∧ w.heap.size + 2 ≤ wr.heap.size) (fun _ _ _ _ j _ => 5 - (intOf j).toNat)
          case atStart => exact ⟨0, by omega, rfl, ⟨bw, rfl, HW⟩, hI, hown, hbx, hB, hsz2⟩
          case round =>
            clear hI hown hbx hB hsz2 HW
            obtain ⟨b, hb, rfl, ⟨bw, rfl, HW⟩, hI, hown, hbx, hB, hsz2⟩ := hrel
            by_cases hltb : b < 5
            · go_wp2_with fail
              refine (most_any w.heap.size A c l a b r _ (hP.mono hB) hBy hl hlc hr1 hr4 (by omega) (by omega) (by omega) hbx).mono ?_
              rintro e w2 ⟨rfl, hB2⟩
              rw [← HK.out a b hlta hltb]
              have hI2 := hI.below hB2 hI.lt
              have hown2 := hown.kept (grown_only (g := w2.heap.size) hB2).grown (Or.inr (fun e => by have := hown.lt _ e; have := hB2.size; omega))
              have hbx2 := (hB2.cell (p := ⟨w.heap.size, 0, none⟩) (by simp; omega)).trans hbx
              have hB3 : Below w.heap.size w w2 := hB.trans (hB2.mono hB.size)
              have hsz3 : w.heap.size + 2 ≤ w2.heap.size := by have := hB2.size; omega
              clear hI hown hbx hB hB2 hsz2
              by_cases ham : a < m
              · by_cases hbm : b < m
                · have HS1 := Lib.hid (WW_step HW.out ham hbm)
                  cases bw
                  all_goals
                    go_wp2_with fail
                    refine (ahead_nat _ a b S _ hI2 hlta hltb).mono ?_
                    rintro e w3 ⟨rfl, rfl⟩
                    go_wp2
                    go_roundw
                    case rel => exact ⟨b + 1, by omega, by go_num, ⟨_, rfl, HS1.out⟩, hI2, hown2, hbx2, hB3, hsz3⟩
                    case measure => simp [intOf]; omega
                · have HS1 := Lib.hid (WW_skip HW.out (fun h => hbm h.2))
                  go_wp2_with fail
                  refine (ahead_nat _ a b S _ hI2 hlta hltb).mono ?_
                  rintro e w3 ⟨rfl, rfl⟩
                  go_wp2
                  go_roundw
                  case rel => exact ⟨b + 1, by omega, by go_num, ⟨bw, rfl, HS1.out⟩, hI2, hown2, hbx2, hB3, hsz3⟩
                  case measure => simp [intOf]; omega
              · have HS1 := Lib.hid (WW_skip HW.out (fun h => ham h.1))
                go_wp2_with fail
                refine (ahead_nat _ a b S _ hI2 hlta hltb).mono ?_
                rintro e w3 ⟨rfl, rfl⟩
                go_wp2
                go_roundw
                case rel => exact ⟨b + 1, by omega, by go_num, ⟨bw, rfl, HS1.out⟩, hI2, hown2, hbx2, hB3, hsz3⟩
                case measure => simp [intOf]; omega
            · obtain rfl : b = 5 := by omega
              have HS1 := Lib.hid (WW_next HW.out hm5)
              go_wp2
              go_roundw
              case rel => exact ⟨a + 1, by omega, by go_num, ⟨bw, rfl, HS1.out⟩, hI, hown, hbx, hB, hsz2⟩
              case measure => simp [intOf]; omega
        · obtain rfl : a = 5 := by omega
          obtain ⟨S', HS'⟩ : ∃ S', Hid (S' = runS m (stepsOf l) (S0 2)) := ⟨_, rfl⟩
          have HK' := Lib.hid (fun a b (ha : a < 5) (hb : b < 5) => by rw [HS'.out]; exact steady_row hm1 hm5 hx2.out ha hb : ∀ a b : Nat, a < 5 → b < 5 → S' (26 + a * 5 + b) = outT (gstep (tnode m) 2 a b) l 0)
          have e := WW_end HW.out hm5
          subst e
          clear HW HK
          go_wp2_with fail
          refine (within_calls _ slack m S _ hI hm5).mono ?_
          rintro e w3 ⟨rfl, rfl⟩
          go_wp2_with fail
          refine (ahead_out _ _).mono ?_
          rintro e w3 ⟨rfl, rfl⟩
          go_wp2
          go_loopw [17, 21, 22, 120, 124] (fun bv _ _ i _ wr => ∃ a : Nat, a ≤ m ∧ i = .int .i64 a ∧ (∃ bw : Bool, bv = .bool bw ∧ Hid (bw = true ↔ WW S' 4 m a 0)) ∧ wr.ownsRow (w.heap.size + 2) 34 9 u12 (2 * l.length) ((stepsOf l).flatMap cells9) ∧ wr.cell? ⟨w.heap.size, 0, none⟩ = some (.slice A l.length c) ∧ Below w.heap.size w wr ∧ w.heap.size + 2 ≤ wr.heap.size) (fun _ _ _ i _ _ => m - (intOf i).toNat)
          case atStart => exact ⟨0, by omega, rfl, ⟨true, rfl, by simp [Hid, WW]⟩, hown, hbx, hB, hsz2⟩
          case round =>
            clear hI hown hbx hB hsz2
            obtain ⟨a, ha, rfl, ⟨bw, rfl, HW⟩, hown, hbx, hB, hsz2⟩ := hrel
            by_cases hlta : a < m
            · go_wp2
              obtain ⟨wo, rfl⟩ : ∃ wo : World, wo = wr := ⟨_, rfl⟩
              go_loopw [17, 22, 124] (fun bv _ j wr => ∃ b : Nat, b ≤ m ∧ j = .int .i64 b ∧ (∃ bw : Bool, bv = .bool bw ∧ Hid (bw = true ↔ WW S' 4 m a b)) ∧ wr.ownsRow (w.heap.size + 2) 34 9 u12 (2 * l.length) ((stepsOf l).flatMap cells9) ∧ wr.cell? ⟨w.heap.size, 0, none⟩ = some (.slice A l.length c) ∧ Below w.heap.size w wr ∧ w.heap.size + 2 ≤ wr.heap.size) (fun _ _ j _ => m - (intOf j).toNat)
              case atStart => exact ⟨0, by omega, rfl, ⟨bw, rfl, HW⟩, hown, hbx, hB, hsz2⟩
              case round =>
                clear hown hbx hB hsz2 HW
                obtain ⟨b, hb, rfl, ⟨bw, rfl, HW⟩, hown, hbx, hB, hsz2⟩ := hrel
                by_cases hltb : b < m
                · have HS1 := Lib.hid (WW_step HW.out hlta hltb)
                  cases bw with
                  | true =>
                    go_wp2_with fail
                    refine (turned_any A c l a b m _ (hP.mono hB) hBy hl hlc (by omega) (by omega) (by omega) (by omega)).mono ?_
                    rintro e w2 ⟨rfl, hB2⟩
                    rw [← HK'.out a b (by omega) (by omega)]
                    have hown2 := hown.kept (grown_only (g := w2.heap.size) hB2).grown (Or.inr (fun e => by have := hown.lt _ e; have := hB2.size; omega))
                    have hbx2 := (hB2.cell (p := ⟨w.heap.size, 0, none⟩) (by simp; omega)).trans hbx
                    have hB3 : Below w.heap.size w w2 := hB.trans (hB2.mono hB.size)
                    have hsz3 : w.heap.size + 2 ≤ w2.heap.size := by have := hB2.size; omega
                    clear hown hbx hB hB2 hsz2
                    go_wp2
                    go_roundw
                    case rel => exact ⟨b + 1, by omega, by go_num, ⟨_, rfl, HS1.out⟩, hown2, hbx2, hB3, hsz3⟩
                    case measure => simp [intOf]; omega
                  | false =>
                    go_wp2
                    go_roundw
                    case rel => exact ⟨b + 1, by omega, by go_num, ⟨_, rfl, HS1.out⟩, hown, hbx, hB, hsz2⟩
                    case measure => simp [intOf]; omega
                · obtain rfl : b = m := by omega
                  have HS1 := Lib.hid (WW_next HW.out (Nat.le_refl _))
                  go_wp2
                  go_roundw
                  case rel => exact ⟨a + 1, by omega, by go_num, ⟨bw, rfl, HS1.out⟩, hown, hbx, hB, hsz2⟩
                  case measure => simp [intOf]; omega
            · obtain rfl : a = m := by omega
              have e := WW_end HW.out (Nat.le_refl _)
              subst e
              go_wp2_with fail
              refine (steady_own u12 (2 * l.length) _ _ (stepsOf l) a _ hown steps_len rfl (steps_fine hBy) (by rw [← steps_len]; omega) hm1 hm5).mono ?_
              rintro e w2 ⟨rfl, hB2⟩
              rw [← HS'.out]
              go_wp2
              go_ret
              exact ⟨by simp, hB.trans (hB2.mono hB.size)⟩
end Go.Proofs.Ytegajejaadkkiaa
