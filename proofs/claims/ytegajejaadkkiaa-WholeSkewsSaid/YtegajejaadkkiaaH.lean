/-
  PROVED: 'cenotaphtop.WholeSkews' returns true whatever its four arguments are (three bytes, a slice of pairs of bytes), and each argument reads afterwards as it read before.
  CONDITIONS: none beyond the row's own.
-/
import Derived.Test.YtegajejaadkkiaaG
import Derived.ProofKit
import Derived.OpenShut
import Derived.ShutString
import Derived.ChangeOld
import Derived.Below
import Derived.Deep.Slices
namespace Go.Proofs.Ytegajejaadkkiaa
open Go.ChangeShapes Go.WideShapes Go.ChangeAt Go.RowKit

theorem own : ownKnob Try.prog.godebug = none := by kernel_rfl
theorem laidOut : laidOutB Try.prog = true := by kernel_rfl
theorem cells26 : Try.prog.cellsOf 26 = 2 := by kernel_rfl
theorem cells5 : Try.prog.cellsOf 5 = 1 := by kernel_rfl

theorem wf_u8 {n : Int} (h : (Lit.int .u8 n).wf = true) : 0 ≤ n ∧ n ≤ 255 := by
  have hmin : IntKind.u8.min = 0 := rfl
  have hmax : IntKind.u8.max = 255 := rfl
  simp only [Lit.wf, Bool.and_eq_true, decide_eq_true_eq] at h
  omega

theorem cells_cell {w : World} {base n : Nat} {a : Addr} {cs : List Value} (h : w.cells? base a n = some cs) (i : Nat) (hi : i < n) : w.cell? (a.add i) = cs[i]? :=
  (World.cells?_some h).2.2 i hi

theorem open_pairs {H : Type} {enc : TypeId × Value → H} {w : World} {base : Nat} {spare : Nat → Bool} {held : Bool} {fuel : Nat} {cs : List Value} {x : DataW H × List MemPlace} (h : DataW.trod enc Try.prog w base spare held fuel 22 cs = some x) :
    ∃ (A : Option Addr) (cap : Nat) (l : List (Int × Int)), cs = [.slice A l.length cap] ∧ l.length ≤ cap ∧ cap ≤ maxLen ∧ SlP w A l ∧ Bytes l := by
  rcases Deep.open_slice Try.underlying22 h with h | ⟨a, len, cap, m, n, D, Pl, rfl, _, hl, hm, hmm, _, hx⟩
  · exact ⟨none, 0, [], h.1, Nat.le_refl _, by unfold maxLen; omega, .inl rfl, fun i hi => by simp at hi⟩
  · have hlen : len ≤ m := by rw [hmm]; split <;> omega
    rw [cells26] at hx
    have key : ∀ i, i < len → ∃ p : Int × Int, w.cell? ((a.add (i * 2)).add 0) = some (.int .u8 p.1) ∧ w.cell? ((a.add (i * 2)).add 1) = some (.int .u8 p.2) ∧ 0 ≤ p.1 ∧ p.1 ≤ 255 ∧ 0 ≤ p.2 ∧ p.2 ≤ 255 := by
      intro i hi
      obtain ⟨cs', h1, h2⟩ := hx i (by omega)
      obtain ⟨xs, m', _, _, hc, hxs, hf⟩ := DataW.trod_array Try.underlying26 h2
      rw [cells26] at hc
      match cs', hc with
      | [c0, c1], _ =>
        have f0 := hf 0 (by omega)
        have f1 := hf 1 (by omega)
        rw [cells5] at f0 f1
        simp at f0 f1
        rw [List.getElem?_eq_getElem (by omega)] at f0 f1
        obtain ⟨n0, e0, _, w0⟩ := DataW.trod_int Try.underlying5 f0
        obtain ⟨n1, e1, _, w1⟩ := DataW.trod_int Try.underlying5 f1
        simp at e0 e1
        subst e0 e1
        refine ⟨(n0, n1), ?_, ?_, (wf_u8 w0).1, (wf_u8 w0).2, (wf_u8 w1).1, (wf_u8 w1).2⟩
        · rw [cells_cell h1 0 (by omega)]; rfl
        · rw [cells_cell h1 1 (by omega)]; rfl
    obtain ⟨f, hf⟩ := Deep.choose_lt key
    refine ⟨some a, cap, (List.range len).map f, by simp, by simpa using hl, hm, ?_, ?_⟩
    · by_cases h0 : len = 0
      · subst h0; exact .inl rfl
      · refine .inr ?_
        obtain ⟨b, off, spot⟩ := a
        have hs := (hf 0 (by omega)).1
        have hspot : spot = none := by simpa [Addr.add] using World.cell?_spot hs
        subst hspot
        refine ⟨b, off, rfl, ?_, ?_⟩
        · have := World.block_lt_of_cell? w _ hs
          simpa [Addr.add] using this
        · intro i hi
          have hi' : i < len := by simpa using hi
          have := hf i hi'
          have e0 : (((⟨b, off, none⟩ : Addr).add (i * 2)).add 0) = ⟨b, off + i * 2, none⟩ := by
            unfold Addr.add; by_cases h : i * 2 = 0 <;> simp [h]
          have e1 : (((⟨b, off, none⟩ : Addr).add (i * 2)).add 1) = ⟨b, off + i * 2 + 1, none⟩ := by
            unfold Addr.add; by_cases h : i * 2 = 0 <;> simp [h]
          rw [e0, e1] at this
          rw [List.getD_eq_getElem?_getD, List.getElem?_map, List.getElem?_range hi']
          exact ⟨this.1, this.2.1⟩
    · intro i hi
      have hi' : i < len := by simpa using hi
      rw [List.getD_eq_getElem?_getD, List.getElem?_map, List.getElem?_range hi']
      exact (hf i hi').2.2

theorem SlP.take {w : World} {A : Option Addr} {l : List (Int × Int)} (h : SlP w A l) (n : Nat) : SlP w A (l.take n) := by
  rcases h with rfl | ⟨b, off, h1, h2, h3⟩
  · exact .inl (by simp)
  · refine .inr ⟨b, off, h1, h2, fun i hi => ?_⟩
    have hi2 : i < n ∧ i < l.length := by rw [List.length_take] at hi; omega
    rw [List.getD_eq_getElem?_getD, List.getElem?_take, if_pos hi2.1, ← List.getD_eq_getElem?_getD]
    exact h3 i hi2.2
theorem Bytes.take {l : List (Int × Int)} (h : Bytes l) (n : Nat) : Bytes (l.take n) := by
  intro i hi
  have hi2 : i < n ∧ i < l.length := by rw [List.length_take] at hi; omega
  rw [List.getD_eq_getElem?_getD, List.getElem?_take, if_pos hi2.1, ← List.getD_eq_getElem?_getD]
  exact h i hi2.2

set_option maxRecDepth 100000 in
theorem lifted (os : Os) (started : os.Started) (H : Type) (enc : TypeId × Value → H) :
    ReturnsInHanded {} Try.checked os 3 .any (Rows.wholeSkewsSpec.pre6 enc Try.prog Try.f3 Rows.wholeSkewsRow.domain false) (Rows.wholeSkewsSpec.post enc Try.prog Try.f3 false true false false) := by
  refine returnsInHanded_of_change (C := Try.checked) own started (by kernel_rfl) Try.func3
    (ChangeSpec.witness6 (enc := enc) (C := Try.checked) false ⟨#[], #[.int .u8 0, .int .u8 0, .int .u8 0, .slice none 0 0], []⟩ 8 (by kernel_rfl) (by kernel_rfl) (by kernel_rfl) (by kernel_rfl)) ?_
  intro W base args ds gs before hval0 hW hcnd _
  have hval : ∀ (j : Nat) t v, Try.f3.params[j]? = some t → args[j]? = some v → Value.okWide Try.prog W .any base t v := hval0
  have hW' := hW
  obtain ⟨p, q, hA0, hV, rfl, hfz, hnd⟩ := hW
  have hA : DataW.TrodAll enc Try.prog W 0 (fun _ => true) true Try.f3.params.toList args.toList ds p := hA0
  rw [Try.params3] at hA hval
  obtain ⟨v0, vs0, d0, ds0, p0, q0, hargs, rfl, rfl, h0, r0⟩ := trodAll_cons hA
  obtain ⟨v1, vs1, d1, ds1, p1, q1, rfl, rfl, rfl, h1, r1⟩ := trodAll_cons r0
  obtain ⟨v2, vs2, d2, ds2, p2, q2, rfl, rfl, rfl, h2, r2⟩ := trodAll_cons r1
  obtain ⟨v3, vs3, d3, ds3, p3, q3, rfl, rfl, rfl, h3, r3⟩ := trodAll_cons r2
  obtain ⟨rfl, rfl, rfl⟩ := trodAll_nil r3
  obtain rfl : args = #[v0, v1, v2, v3] := by cases args; simp_all
  obtain ⟨rfl, rfl⟩ := trodVars_none hV
  obtain ⟨a0, rfl, rfl, rfl, w0⟩ := open_int Try.underlying5 (hval 0 5 v0 rfl rfl) h0
  obtain ⟨a1, rfl, rfl, rfl, w1⟩ := open_int Try.underlying5 (hval 1 5 v1 rfl rfl) h1
  obtain ⟨a2, rfl, rfl, rfl, w2⟩ := open_int Try.underlying5 (hval 2 5 v2 rfl rfl) h2
  have k3 := h3
  have lt3 : ∀ x ∈ p3, x.block < W.heap.size := by obtain ⟨m, hm⟩ := k3; exact DataW.trod_lt m _ _ _ hm
  obtain ⟨ab, len, cap, rfl⟩ := okWide_slice Try.underlying22 (hval 3 22 v3 rfl rfl)
  obtain ⟨fuel, hf⟩ := h3
  obtain ⟨A, c, l, hcs, hlc, hc, hP, hBy⟩ := open_pairs hf
  simp [Value.cells] at hcs
  obtain ⟨rfl, rfl, rfl⟩ := hcs
  clear hA0 hval0
  refine (skews_calls a0 a1 a2 ab cap l W (wf_u8 w0).1 (wf_u8 w0).2 (wf_u8 w1).1 (wf_u8 w1).2 (wf_u8 w2).1 (wf_u8 w2).2 hlc hc (hP.take 30) (hBy.take 30)).mono fun e W' ⟨he, bel⟩ => ?_
  subst he
  exact ⟨_, rfl, _, _, _, [], _, [], hW', trodAll_mk1 (shut_bool Try.underlying4 _), (trodAll_cons_mk (shut_int Try.underlying5 w0) (trodAll_cons_mk (shut_int Try.underlying5 w1) (trodAll_cons_mk (shut_int Try.underlying5 w2) (trodAll_cons_mk (Below.trod laidOut (by kernel_rfl) (of_decide_eq_true (by kernel_rfl)) k3 bel lt3) trodAll_mk0)))), rfl, bel.frame _, fun h => by cases h⟩

theorem skews_holds : Rows.WholeSkewsSaid :=
  OpenClaim.holds_of_wide 3 Try.f3 rfl rfl rfl rfl rfl rfl rfl ⟨rfl, rfl, rfl, rfl, rfl⟩ rfl rfl rfl rfl rfl (by kernel_rfl) Try.func3 (by kernel_rfl)
    (of_decide_eq_true (by kernel_rfl)) (by unfold Func.isWrapper; first | (rw [if_pos (by decide +kernel)]; kernel_rfl) | (rw [if_neg (by decide +kernel)]; exact ⟨rfl, rfl⟩))
    (fun os started H enc _ => lifted os started H enc)
#print axioms skews_holds
end Go.Proofs.Ytegajejaadkkiaa
