import Derived.Test.YtegajejaadkkiabL
namespace Go.Proofs.Ytegajejaadkkiab
open Go.RowKit

/-! a number's bytes. -/

/-- seven bits each, the lowest first. -/
def dig (n : Nat) : List Nat := if n < 128 then [n] else (n % 128) :: dig (n / 128)
termination_by n
decreasing_by omega

theorem dig_small {n : Nat} (h : n < 128) : dig n = [n] := by rw [dig, if_pos h]
theorem dig_big {n : Nat} (h : ¬ n < 128) : dig n = (n % 128) :: dig (n / 128) := by rw [dig, if_neg h]
theorem dig_ne (n : Nat) : dig n ≠ [] := by
  rw [dig]; split <;> simp
theorem dig_lt (n : Nat) : ∀ d ∈ dig n, d < 128 := by
  induction n using Nat.strongRecOn with
  | _ n ih =>
    intro d hd
    rw [dig] at hd
    split at hd
    · simp at hd; omega
    · rename_i h
      rcases List.mem_cons.1 hd with h1 | h1
      · omega
      · exact ih (n / 128) (by omega) d h1
theorem dig_len (k : Nat) : ∀ n : Nat, n < 128 ^ k → 0 < k → (dig n).length ≤ k := by
  induction k with
  | zero => intro n _ h; omega
  | succ k ih =>
    intro n hn _
    rw [dig]; split
    · simp
    · rename_i h
      have h1 : 0 < k := by
        rcases Nat.eq_zero_or_pos k with h2 | h2
        · subst h2; simp at hn; omega
        · exact h2
      have := ih (n / 128) (by rw [Nat.pow_succ] at hn; exact Nat.div_lt_of_lt_mul (by rw [Nat.mul_comm]; exact hn)) h1
      simp only [List.length_cons]; omega

/-- the bytes, the highest first. -/
def enc (n : Nat) : List Int := ((dig n).tail.reverse.map fun d : Nat => (d : Int) + 128) ++ [(((dig n).headD 0 : Nat) : Int)]

theorem wraps_i64 (n : Int) (h₀ : 0 ≤ n) (h₁ : n < 2 ^ 63) : IntKind.i64.wrap n = n := by
  rw [IntKind.wrap_i64, show (2 : Int) ^ 63 = 9223372036854775808 by decide] at *
  omega
theorem and_127 (n : Int) (h0 : 0 ≤ n) (h : n < 2 ^ 63) : bits .and .i64 n 127 = n % 128 :=
  bits_mask .i64 63 (by decide) wraps_i64 7 (by decide) n h0 h
theorem or_128' : ∀ d : Fin 128, (d.val ||| 128) = d.val + 128 := by decide
theorem or_128 (d : Nat) (h : d < 128) : bits .or .u8 (d : Int) 128 = (d : Int) + 128 := by
  have h1 := (bits_nat .u8 8 (by decide) wraps_u8 d 128 (by omega) (by decide)).2
  have h2 := or_128' ⟨d, h⟩
  simp only at h2
  rw [h2] at h1
  simpa using h1

theorem info5 : (Try.prog.info? 5).map (fun i => (i.zero, i.size, i.bytes)) = some (some (.int .u8 0), 1, 1) := by kernel_rfl

/-- a row of bytes that is appended to. -/
def DB (w0 w : World) (row : Option Nat) (v : Value) (xs : List Int) : Prop := Dst w0 w row 5 1 v xs.length (xs.map (Value.int .u8)) ∧ ∀ q, v.ownBlock = some q → q < w.heap.size
theorem DB.below {w0 w w1 : World} {row : Option Nat} {v : Value} {xs : List Int} (h : DB w0 w row v xs) (hb : Below w.heap.size w w1) : DB w0 w1 row v xs :=
  ⟨h.1.below hb, fun q hq => Nat.lt_of_lt_of_le (h.2 q hq) hb.size⟩

theorem DB.self {w0 w : World} {row : Option Nat} {v : Value} {xs : List Int} (h : DB w0 w row v xs) :
    ∃ row', DB w w row' v xs ∧ (row' = v.ownBlock ∨ row' = none) ∧ ∀ (w2 : World) (v2 : Value) (ys : List Int), DB w w2 row' v2 ys → DB w0 w2 row v2 ys := by
  obtain ⟨row', h1, h2, h3⟩ := h.1.self
  exact ⟨row', ⟨h1, h.2⟩, h2, fun w2 v2 ys h4 => ⟨h3 _ _ _ _ h4.1, h4.2⟩⟩

/-- a row of bytes of the call's own. -/
def OB (base : Nat) (w : World) (v : Value) (xs : List Int) : Prop := w.ownsRow base 5 1 v xs.length (xs.map (Value.int .u8))

/-- it owns its row: the one that may be written, or a new one. -/
def OwnR (w0 w : World) (row : Option Nat) (v : Value) (X : List Int) : Prop := OB 0 w v X ∧ (v.ownBlock = row ∨ v.ownBlock = none ∨ ∃ q, v.ownBlock = some q ∧ w0.heap.size ≤ q)

theorem DB.append {ops : Array Oper} {rest : List Oper} {o : Oper} {a : Act} {Q : Exit → Act → World → Prop} {w0 w : World} {row : Option Nat} (hgd : o.guard = none) (s x : Operand)
    (ho : o.op = .call { callee := .builtin .append, args := #[s, x], argTypes := #[24, 24] })
    (v : Value) (xs : List Int) (hs : a.eval s = v) (hd : DB w0 w row v xs) (c : Int) (T : TypeId)
    (hx : a.eval x = .slice (some ⟨w.heap.size, 0, none⟩) 1 1) (hlen : xs.length ≤ 1000000)
    (h : ∀ v' w', DB w0 w' row v' (xs ++ [c]) → w.grownBy w' v.ownBlock → (v'.ownBlock = v.ownBlock ∨ v'.ownBlock = none ∨ ∃ q, v'.ownBlock = some q ∧ w.heap.size ≤ q) → OwnR w0 w' row v' (xs ++ [c]) → wpList Try.prog ops Q rest (a.put o.dst v') w') : wpList Try.prog ops Q (o :: rest) a (w.alloc (.cells #[.int .u8 c] T)) := by
  obtain ⟨i5, hi, hz0, hz1, hz2⟩ := info_parts info5
  refine Dst.append hgd s x 24 ho 5 i5 _ 1 1 Try.underlying24 hi hz0 hz1 hz2 rfl (by decide) v _ _ hs (Dst.alloc hd.1 _) ⟨w.heap.size, 0, none⟩ 1 1 [.int .u8 c] hx rfl (new_cells _ _ _) (by simp [Value.oneCell']) (by omega) (by unfold maxLen; omega) (by omega) ?_
  intro v' w' hd' hg ho hat
  refine h v' w' ⟨?_, fun q hq => (World.ownsRow.lt ho.1 q hq).2⟩ ((World.grownBy_alloc _ _ _).trans hg) ?_ ⟨by unfold OB; simpa using ho.1, ho.2⟩
  · simpa using hd'
  · rcases hat with h | h | ⟨q, h, h'⟩
    · exact .inl h
    · exact .inr (.inl h)
    · exact .inr (.inr ⟨q, h, by simp at h'; omega⟩)

theorem OB.append {ops : Array Oper} {rest : List Oper} {o : Oper} {a : Act} {Q : Exit → Act → World → Prop} {base : Nat} {w : World} (hgd : o.guard = none) (s x : Operand)
    (ho : o.op = .call { callee := .builtin .append, args := #[s, x], argTypes := #[24, 24] })
    (v : Value) (xs : List Int) (hs : a.eval s = v) (hd : OB base w v xs) (c : Int) (T : TypeId)
    (hx : a.eval x = .slice (some ⟨w.heap.size, 0, none⟩) 1 1) (hlen : xs.length ≤ 1000000) (hb : base ≤ w.heap.size)
    (h : ∀ v' w', OB base w' v' (xs ++ [c]) → w.grownBy w' v.ownBlock → wpList Try.prog ops Q rest (a.put o.dst v') w') : wpList Try.prog ops Q (o :: rest) a (w.alloc (.cells #[.int .u8 c] T)) := by
  obtain ⟨i5, hi, hz0, hz1, hz2⟩ := info_parts info5
  refine wpList_append_own _ hgd s x 24 ho base 5 i5 _ 1 1 Try.underlying24 hi hz0 hz1 hz2 rfl (by decide) v _ _ hs (World.ownsRow.alloc hd _) ⟨w.heap.size, 0, none⟩ 1 1 [.int .u8 c] hx rfl (new_cells _ _ _) (by simp [Value.oneCell']) (by unfold maxLen; omega) (by omega) (by simp; omega) ?_
  intro v' w' hd' hg _
  refine h v' w' ?_ ((World.grownBy_alloc _ _ _).trans hg)
  unfold OB; simpa using hd'

theorem OB.open {base : Nat} {w : World} {v : Value} {xs : List Int} (h : OB base w v xs) (hne : xs ≠ []) : ∃ g cap, v = .slice (some ⟨g, 0, none⟩) xs.length cap ∧ xs.length ≤ cap ∧ base ≤ g ∧ g < w.heap.size ∧ ∀ i, i < xs.length → w.cell? ⟨g, 0 + i, none⟩ = some (.int .u8 (xs.getD i 0)) := by
  have hcell := fun (g : Nat) => World.ownsRow.cells (g := g) h
  rcases h.2 with ⟨rfl, h0⟩ | ⟨g, cap, cur, rfl, hb, hg, hn, _⟩
  · exact absurd (List.eq_nil_of_length_eq_zero h0) hne
  · refine ⟨g, cap, rfl, hn, hb, (Array.getElem?_eq_some_iff.1 hg).1, fun i hi => ?_⟩
    have := hcell g rfl i _ (getD_nums .u8 xs i hi)
    rwa [add_none] at this

def nz (l : List Nat) : List Int := l.map fun d : Nat => (d : Int)
def boolOf : Value → Bool | .bool b => b | _ => false

/-- what a call that appends hands back. -/
def RetD (w : World) (row : Option Nat) (xs : List Int) (e : Ending) (w' : World) : Prop := ∃ v', e = .returned v' ∧ DB w w' row v' xs

attribute [local go_sem] max2_mx max_two in
set_option maxHeartbeats 1000000 in
theorem wput_calls (row : Option Nat) (v : Value) (xs : List Int) (n : Nat) (w : World) (hd : DB w w row v xs) (hn : n < 2 ^ 62) (hx : xs.length ≤ 900000) :
    Calls Try.prog 18 #[v, .int .i64 n] w (RetD w row (xs ++ enc n)) := by
  have hmx : mx n 0 = n := by rw [mx_def]; omega
  obtain ⟨i5, hi, hz0, hz1, hz2⟩ := info_parts info5
  have hn' : (n : Int) < 4611686018427387904 := by
    have : (2 : Nat) ^ 62 = 4611686018427387904 := by decide
    omega
  go_enter Try.func18, Try.ntmps18
  go_wp2
  go_loopw [1, 5, 6] (fun cv lv ov wr => ∃ (cur : Nat) (acc : List Nat) (okb : Bool), cv = .int .i64 cur ∧ ov = .bool okb ∧ OB w.heap.size wr lv (nz acc) ∧ Below w.heap.size w wr ∧ cur ≤ n ∧ Hid (if okb then dig n = acc ++ dig cur else acc = dig n)) (fun cv _ ov _ => if boolOf ov then (intOf cv).toNat + 1 else 0)
  case atStart => exact ⟨n, [], true, rfl, rfl, World.ownsRow_nil _ _ _ _, Below.refl _ _, Nat.le_refl _, rfl⟩
  case round =>
    obtain ⟨cur, acc, okb, rfl, rfl, hl, hB, hcn, HD⟩ := hrel
    have hlen9 := dig_len 9 n (by have e : (2 : Nat) ^ 62 = 4611686018427387904 := by decide
                                  have e2 : (128 : Nat) ^ 9 = 9223372036854775808 := by decide
                                  omega) (by omega)
    cases okb with
    | true =>
      have hD := HD.out
      simp only [if_true] at hD
      have hacc : acc.length ≤ 9 := by rw [hD, List.length_append] at hlen9; omega
      have hand := and_127 cur (by omega) (by omega)
      by_cases hs : cur < 128
      · rw [dig_small hs] at hD
        have HD1 := Lib.hid hD
        clear hD HD
        have hq : (cur : Int) / 128 = 0 := by omega
        have hr : (cur : Int) % 128 = cur := by omega
        go_wp2_with (at_builtin; refine OB.append rfl _ _ rfl u5 _ rfl hl _ _ rfl ?c1 hB.size ?_)
        case c1 => simp [nz]; omega
        intro v' w2 hl2 hg2
        have hB2 := hB.grown hg2 hB.size (fun q hq => (World.ownsRow.lt hl q hq).1)
        go_wp2
        go_roundw
        case rel => exact ⟨0, acc ++ [cur], false, rfl, rfl, by simpa [nz] using hl2, hB2, by omega, HD1.out.symm⟩
        case measure => simp [intOf, boolOf]
      · rw [dig_big hs] at hD
        have HD1 := Lib.hid hD
        clear hD HD
        have hq : 0 < (cur : Int) / 128 := by omega
        obtain ⟨c2, hc2⟩ : ∃ c2 : Nat, (cur : Int) / 128 = (c2 : Int) := ⟨cur / 128, by omega⟩
        obtain ⟨d2, hd2⟩ : ∃ d2 : Nat, (cur : Int) % 128 = (d2 : Int) := ⟨cur % 128, by omega⟩
        have hc3 := Lib.hid (show c2 = cur / 128 by omega)
        have hd3 := Lib.hid (show d2 = cur % 128 by omega)
        have hd4 : d2 < 128 := by omega
        have hc4 : c2 < cur := by omega
        have hc5 : 0 < c2 := by omega
        clear hq
        go_wp2_with (at_builtin; refine OB.append rfl _ _ rfl u5 _ rfl hl _ _ rfl ?c1 hB.size ?_)
        case c1 => simp [nz]; omega
        intro v' w2 hl2 hg2
        have hB2 := hB.grown hg2 hB.size (fun q hq => (World.ownsRow.lt hl q hq).1)
        go_wp2
        go_roundw
        case rel => exact ⟨c2, acc ++ [d2], true, rfl, rfl, by simpa [nz] using hl2, hB2, by omega, by rw [Hid, if_pos rfl, HD1.out, hc3.out, hd3.out]; simp⟩
        case measure => simp [intOf, boolOf]; omega
    | false =>
      have hD := HD.out
      simp only [Bool.false_eq_true, if_false] at hD
      subst hD
      clear HD
      obtain ⟨g, cap, rfl, hlc, hg1, hg2, hcell⟩ := hl.open (by simp [nz, dig_ne])
      have hln : (nz (dig n)).length = (dig n).length := by simp [nz]
      rw [hln] at hlc hcell
      have hcell' : ∀ i, i < (dig n).length → wr.cell? ⟨g, 0 + i, none⟩ = some (.int .u8 ((dig n).getD i 0 : Nat)) ∧ (dig n).getD i 0 < 128 := by
        intro i hi
        rw [hcell i hi]
        have hm : (dig n).getD i 0 ∈ dig n := by rw [List.getD_eq_getElem?_getD, List.getElem?_eq_getElem hi]; exact List.getElem_mem hi
        refine ⟨?_, dig_lt n _ hm⟩
        simp [nz, List.getD_eq_getElem?_getD, List.getElem?_map, List.getElem?_eq_getElem hi]
      clear hcell
      have hpos : 0 < (dig n).length := List.length_pos_iff.2 (dig_ne n)
      rw [hln]
      have henc := Lib.hid (show enc n = ((dig n).tail.reverse.map fun d : Nat => (d : Int) + 128) ++ [(((dig n).headD 0 : Nat) : Int)] from rfl)
      generalize dig n = ds at *
      obtain ⟨m, hm⟩ : ∃ m : Nat, ds.length = m + 1 := ⟨ds.length - 1, by omega⟩
      have hgv : some g ≠ v.ownBlock := fun e => by have := hd.2 g e.symm; omega
      have hd1 : DB w wr row v xs := hd.below hB
      have hx9 : ds.length ≤ 9 := hlen9
      have hcell2 := Lib.hid hcell'
      have hmh := Lib.hid hm
      clear hd hl hcell' hlen9 hm
      have hm1 : m < ds.length := by have := hmh.out; omega
      have hsub : (ds.length : Int) - 1 = (m : Int) := by have := hmh.out; omega
      go_wp2
      go_loopw [0, 7] (fun vv i wr => ∃ k : Nat, k ≤ m ∧ i = .int .i64 k ∧ DB w wr row vv (xs ++ ((ds.drop (k + 1)).reverse.map fun d : Nat => (d : Int) + 128)) ∧ some g ≠ vv.ownBlock ∧ g < wr.heap.size ∧ Hid (∀ i, i < ds.length → wr.cell? ⟨g, 0 + i, none⟩ = some (.int .u8 (ds.getD i 0 : Nat)) ∧ ds.getD i 0 < 128)) (fun _ i _ => (intOf i).toNat)
      case atStart => exact ⟨m, Nat.le_refl _, rfl, by rw [List.drop_eq_nil_of_le (by have := hmh.out; omega)]; simpa using hd1, hgv, hg2, hcell2⟩
      case round =>
        clear hd1 hgv hg2 hcell2
        obtain ⟨k, hk, rfl, hd1, hgv, hg2, hcell2⟩ := hrel
        generalize hX : xs ++ ((ds.drop (k + 1)).reverse.map fun d : Nat => (d : Int) + 128) = X at hd1
        have HX := Lib.hid hX
        have hXl : X.length ≤ 900010 := by rw [← hX]; simp; omega
        clear hX
        cases k with
        | zero =>
          have hc0 := (hcell2.out 0 (by omega)).1
          obtain ⟨dk, hdk⟩ : ∃ dk, Hid (ds.getD 0 0 = dk) := ⟨_, rfl⟩
          rw [hdk.out] at hc0
          go_wp2_with (at_builtin; refine DB.append rfl _ _ rfl u0 _ rfl hd1 _ _ rfl ?c1 ?_)
          case c1 => omega
          intro v' w2 hl2 _ _ _
          go_wp2
          go_ret
          refine ⟨v', rfl, ?_⟩
          rw [henc.out, ← List.append_assoc]
          rw [show ds.headD 0 = ds.getD 0 0 by cases ds <;> rfl, ← List.drop_one, HX.out, hdk.out]
          exact hl2
        | succ k =>
          obtain ⟨hck, hlt2⟩ := hcell2.out (k + 1) (by omega)
          rw [Nat.zero_add] at hck
          have hor := or_128 _ hlt2
          obtain ⟨dk, hdk⟩ : ∃ dk, Hid (ds.getD (k + 1) 0 = dk) := ⟨_, rfl⟩
          rw [hdk.out] at hck hor hlt2
          go_wp2_with (at_builtin; refine DB.append rfl _ _ rfl u0 _ rfl hd1 _ _ rfl ?c1 ?_)
          case c1 => omega
          intro v' w2 hl2 hgr hat _
          go_wp2
          go_roundw
          case rel =>
            refine ⟨k, by omega, by go_num, ?_, ?_, ?_, ?_⟩
            · rw [List.drop_eq_getElem_cons (show k + 1 < ds.length by omega), List.reverse_cons, List.map_append, ← List.append_assoc]
              have e : ds[k + 1]'(by omega) = dk := by rw [← hdk.out, List.getD_eq_getElem?_getD, List.getElem?_eq_getElem (show k + 1 < ds.length by omega)]; rfl
              rw [e, HX.out]
              exact hl2
            · rcases hat with h | h | ⟨q, h, h'⟩
              · rw [h]; exact hgv
              · rw [h]; simp
              · rw [h]; simp; omega
            · have := hgr.size; omega
            · intro i hi
              rw [World.cell?_of_block (w := wr) (hgr.block g hg2 hgv)]
              exact hcell2.out i hi
          case measure => simp [intOf]
end Go.Proofs.Ytegajejaadkkiab
