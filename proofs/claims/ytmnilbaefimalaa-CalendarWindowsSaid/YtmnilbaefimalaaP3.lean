/- CalendarInverse: the walk. Its conditions: the integers fit, the row of integers lies in memory. -/
import Derived.Test.YtmnilbaefimalaaP2
import Derived.StillTailTactics
import Derived.BigQuiet
import Derived.Deep.CutRange
import Derived.Deep.RegionWith
namespace Go.Proofs.Ytmnilbaefimalaa
open Go Go.RowKit Go.Shelf Go.Joins

theorem below_drewN {n : Nat} {w W : World} (h : Below n w W) (m : Nat) : Below n w (W.drewN m) := ⟨h.os, h.tape, h.output, h.size, h.block⟩
theorem pick_still (c n : Int) (hc : -9223372036854775808 ≤ c ∧ c ≤ 9223372036854775807) (hn : 0 < n ∧ n ≤ 10000000000) (w : World) : Calls Try.prog 15 #[.int .i64 c, .int .i64 n] w fun e w' => e = .returned (.int .i64 (pk c n)) ∧ w' = w :=
  (pick_any c n hc hn w).mono fun _ _ ⟨h1, h2⟩ => ⟨h1, h2.symm⟩
/-- The cells of a row of integers. -/
def IntCells (W : World) (g : Option Addr) (zs : List Int) : Prop := ∀ j, j < zs.length → ∃ gb, g = some ⟨gb, 0, none⟩ ∧ gb < W.heap.size ∧ W.cell? ⟨gb, j, none⟩ = some (.int .i64 (zs[j]?.getD 0))
theorem IntCells.step {W W' : World} {g : Option Addr} {zs : List Int} (h : IntCells W g zs) (hB : Below W.heap.size W W') : IntCells W' g zs := by
  intro j hj
  obtain ⟨gb, h1, h2, h3⟩ := h j hj
  exact ⟨gb, h1, Nat.lt_of_lt_of_le h2 hB.size, (hB.cell (p := ⟨gb, j, none⟩) h2).trans h3⟩
theorem own_ints {W : World} {n : Nat} {v : Value} {zs : List Int} (h : OwnInts W n v zs) : ∃ g vc, v = .slice g zs.length vc ∧ IntCells W g zs := by
  by_cases h0 : 0 < zs.length
  · obtain ⟨g, cap, cur, rfl, _, hg, hcur⟩ := row_of_own h h0
    refine ⟨_, _, rfl, fun j hj => ⟨g, rfl, (Array.getElem?_eq_some_iff.1 hg).1, ?_⟩⟩
    rw [cell_of_block hg]
    exact hcur j _ (by rw [List.getElem?_map, List.getElem?_eq_getElem hj]; rfl)
  · obtain ⟨a, c, rfl⟩ := own_shape h
    exact ⟨_, _, rfl, fun j hj => by omega⟩
def has (s : Int) (l : List Int) : Bool := l.any (· == s)
theorem has_snoc (s x : Int) (l : List Int) : has s (l ++ [x]) = (has s l || decide (x = s)) := by
  simp [has]; rfl
theorem has_of_mem {s : Int} {l : List Int} (h : s ∈ l) : has s l = true := by simp [has, h]
theorem int_take {zs : List Int} {k : Nat} (h : k < zs.length) : zs.take (k + 1) = zs.take k ++ [zs[k]?.getD 0] := take_get h
theorem at_len {off : Int} {ys : Sh} (d k : Int) (h : ys.length ≤ 12) : (at' off ys d k).length ≤ 13 := by
  unfold at'
  split
  · have := atAll_length d k (strs 0 off ys)
    have := strs_length ys 0 off
    omega
  · simp

set_option maxRecDepth 100000 in
set_option maxHeartbeats 2000000 in
theorem inverse_walk (o : Int) (a : Option Addr) (len cap : Nat) (zs : List Int) (p q r : Int) (w : World) (ho : -9223372036854775808 ≤ o ∧ o ≤ 9223372036854775807) (hI : RowIn w a len cap zs) (hp : -9223372036854775808 ≤ p ∧ p ≤ 9223372036854775807) (hq : -9223372036854775808 ≤ q ∧ q ≤ 9223372036854775807) (hr : -9223372036854775808 ≤ r ∧ r ≤ 9223372036854775807) :
    Calls Try.prog 4 #[.int .i64 o, .slice a len cap, .int .i64 p, .int .i64 q, .int .i64 r] w fun e w' => e = .returned (.bool true) ∧ Below w.heap.size w w' := by
  have hpb := pk_bound p 6000000 (by omega)
  have hqb := pk_bound q 70 (by omega)
  have hrb := pk_bound r 86400 (by omega)
  obtain ⟨s, hs⟩ : ∃ s, pk p 6000000 = s := ⟨_, rfl⟩
  have HI := Lib.hid hI; clear hI
  go_enter Try.func4, Try.ntmps4
  go_wp2_with fail
  refine (sane_any w).mono ?_
  rintro e w1 ⟨rfl, hB1, hz1⟩
  go_wp2_with fail
  refine (sane_made HI.out hB1 hz1 o ho).mono ?_
  rintro e w2 ⟨n, ys, sa, b, zc, rfl, hM, hyb, hB2⟩
  clear hB1 hz1
  have hd := local_ok (off := mkOff o) (ys := ys) s
  have hmem := has_of_mem (local_at (s := s) hM.ok (by omega) (by omega))
  generalize hl1 : local' (mkOff o) ys s = l1 at *
  obtain ⟨d1, k1⟩ := l1
  dsimp only at hd hmem
  have G1 := Lib.hid hl1; clear hl1
  have HM := Lib.hid hmem; clear hmem
  have hM := hM.alloc (.cells #[.int .i64 (mkOff o), .slice sa ys.length zc] 24)
  have hB := below_alloc hB2 (Nat.le_refl _) (.cells #[.int .i64 (mkOff o), .slice sa ys.length zc] 24)
  have hz := heap_at_new w2 (.cells #[.int .i64 (mkOff o), .slice sa ys.length zc] 24)
  clear hB2
  go_wp2_with fail
  refine (pick_any p 6000000 hp (by omega) _).mono ?_
  rintro e w' ⟨rfl, rfl⟩
  rw [hs]
  generalize w2.alloc (.cells #[.int .i64 (mkOff o), .slice sa ys.length zc] 24) = W at *
  have c0 := cell_of_block hz 0
  have c1 := cell_of_block hz 1
  simp at c0 c1
  go_wp2_with fail
  refine (made_local hM s).mono ?_
  rintro e w4 ⟨rfl, hM4, hB4⟩
  rw [G1.out]
  have hz4 := keep hB4 hz
  have c0 := cell_of_block hz4 0
  have c1 := cell_of_block hz4 1
  simp at c0 c1
  go_wp2_with fail
  refine (made_at hM4 d1 k1).mono ?_
  rintro e w5 ⟨v, rfl, hv, hM5, hB5⟩
  have hll := at_len (off := mkOff o) d1 k1 hM.few
  generalize at' (mkOff o) ys d1 k1 = L at *
  obtain ⟨g, vc, rfl, hcells⟩ := own_ints hv
  have HC := Lib.hid hcells; clear hcells
  have hz5 := keep hB5 hz4
  have c0 := cell_of_block hz5 0
  have c1 := cell_of_block hz5 1
  simp at c0 c1
  have hBB := below_step (below_step hB hB4 (by have := hB.size; omega)) hB5 (by have := hB.size; have := hB4.size; omega)
  clear hB hB4 hB5 hz hz4 hM hM4 hv
  go_wp2_with fail
  go_loopw [17, 18] (fun f i wr => ∃ (k : Nat) (fo : Bool), k ≤ L.length ∧ i = .int .i64 k ∧ f = .bool fo ∧ Hid (has s (L.take k) = fo) ∧ wr = w5) (fun _ i _ => L.length - (intOf i).toNat)
  case atStart => exact ⟨0, _, Nat.zero_le _, rfl, rfl, rfl, rfl⟩
  case round =>
    obtain ⟨k, fo, hk, rfl, rfl, hf, rfl⟩ := hrel
    by_cases hlt : k < L.length
    · obtain ⟨x, hx⟩ : ∃ x, L[k]?.getD 0 = x := ⟨_, rfl⟩
      obtain ⟨gb, rfl, hgb, hg⟩ := HC.out k hlt
      rw [hx] at hg
      have hstep : has s (L.take (k + 1)) = (fo || decide (x = s)) := by rw [int_take hlt, hx, has_snoc, hf.out]
      have HS := Lib.hid hstep; clear hstep hx
      cases fo with
      | true =>
        go_wp2_with fail
        go_roundw
        case rel => exact ⟨k + 1, true, by omega, by go_num, rfl, (by show has _ _ = _; rw [HS.out]; rfl), trivial⟩
        case measure => simp [intOf]; omega
      | false =>
        by_cases hxs : x = s
        · go_wp2_with fail
          go_roundw
          case rel => exact ⟨k + 1, true, by omega, by go_num, rfl, (by show has _ _ = _; rw [HS.out]; simp [hxs]), trivial⟩
          case measure => simp [intOf]; omega
        · go_wp2_with fail
          go_roundw
          case rel => exact ⟨k + 1, false, by omega, by go_num, by simp [hxs], (by show has _ _ = _; rw [HS.out]; simp [hxs]), trivial⟩
          case measure => simp [intOf]; omega
    · obtain rfl : fo = true := by rw [← hf.out, List.take_of_length_le (by omega)]; exact HM.out
      go_wp2_with fail
      refine wp_region_still_tail 6 (by kernel_rfl) (by kernel_rfl) ?_
      simp only [List.take_succ_cons, List.take_zero, List.drop_succ_cons, List.drop_zero]
      repeat still_step
      still_call (pick_still q 70 hq (by omega) _)
      repeat still_step
      still_call (pick_still r 86400 hr (by omega) _)
      refine wpStill_nil ?_
      have hM6 : Made n (mkOff o) ys sa b zc wr.drew := hM5.step ((Below.refl _ wr).drew)
      have hz6 : wr.drew.heap[w2.heap.size]? = _ := hz5
      have hBB6 := hBB.drew
      clear hM5 hz5 hBB c0 c1
      change wpList _ _ _ _ _ wr.drew
      generalize wr.drew = w6 at *
      have c0 := cell_of_block hz6 0
      have c1 := cell_of_block hz6 1
      simp at c0 c1
      go_wp2_with fail
      refine (made_at hM6 (pk q 70 - 1) (pk r 86400)).mono ?_
      rintro e w7 ⟨v, rfl, hv, hM7, hB7⟩
      have hz7 := keep hB7 hz6
      have hBB7 := below_step hBB6 hB7 (by have := hBB6.size; omega)
      have hml := at_len (off := mkOff o) (pk q 70 - 1) (pk r 86400) hM7.few
      have hin : ∀ x ∈ at' (mkOff o) ys (pk q 70 - 1) (pk r 86400), local' (mkOff o) ys x = (pk q 70 - 1, pk r 86400) := fun x hx => at_local hM7.ok hx
      have hasc : ∀ i, i < (at' (mkOff o) ys (pk q 70 - 1) (pk r 86400)).length → 0 < i → _ := fun i h1 h2 => at_step hM7.ok h1 h2
      generalize at' (mkOff o) ys (pk q 70 - 1) (pk r 86400) = MM at *
      obtain ⟨g', vc', rfl, hcells⟩ := own_ints hv
      have HIN := Lib.hid hin; clear hin
      have HAS := Lib.hid hasc; clear hasc
      clear hM6 hz6 hBB6 hv hB7 c0 c1
      obtain ⟨D, hD⟩ : ∃ D, pk q 70 - 1 = D := ⟨_, rfl⟩
      go_wp2_with fail
      rw [hD] at HIN
      go_loopw [20] (fun i wr => ∃ (k : Nat), k ≤ MM.length ∧ i = .int .i64 k ∧ Made n (mkOff o) ys sa b zc wr ∧ wr.heap[w2.heap.size]? = some (.cells #[.int .i64 (mkOff o), .slice sa ys.length zc] 24) ∧ Below w.heap.size w wr ∧ Hid (IntCells wr g' MM)) (fun i _ => MM.length - (intOf i).toNat)
      case atStart => exact ⟨0, Nat.zero_le _, rfl, hM7, hz7, hBB7, hcells⟩
      case round =>
        clear hM7 hz7 hBB7 hcells
        obtain ⟨k, hk, rfl, hM8, hz8, hB8, hC8⟩ := hrel
        by_cases hlt : k < MM.length
        · obtain ⟨x, hx⟩ : ∃ x, MM[k]?.getD 0 = x := ⟨_, rfl⟩
          obtain ⟨gb, rfl, hgb, hg⟩ := hC8.out k hlt
          rw [hx] at hg
          have c0 := cell_of_block hz8 0
          have c1 := cell_of_block hz8 1
          simp at c0 c1
          go_wp2_with fail
          have hxm : x ∈ MM := by rw [← hx, List.getElem?_eq_getElem hlt]; exact List.getElem_mem hlt
          have hloc := HIN.out x hxm
          have HX := Lib.hid hx; clear hx hxm
          have HLOC := Lib.hid hloc; clear hloc
          go_cut [21, 22] from 67 to 75 (fun x1 x2 wx => x1 = .int .i64 D ∧ x2 = .int .i64 (pk r 86400) ∧ Made n (mkOff o) ys sa b zc wx ∧ wx.heap[w2.heap.size]? = some (.cells #[.int .i64 (mkOff o), .slice sa ys.length zc] 24) ∧ Below w.heap.size w wx ∧ Hid (IntCells wx (some ⟨gb, 0, none⟩) MM) ∧ gb < wx.heap.size)
          case first =>
            go_region_with (first | (go_at_call 11; refine (made_local (W := wr.drew) (hM8.step ((Below.refl _ wr).drew)) x).mono ?_; rintro e w10 ⟨rfl, hM10, hBB10⟩; rw [HLOC.out]))
            all_goals (go_wp2_with fail; go_meet)
            all_goals
              have hgb10 : gb < w10.heap.size := Nat.lt_of_lt_of_le hgb hBB10.size
              exact ⟨rfl, rfl, hM10, keep (W := wr.drew) hBB10 hz8, below_step hB8.drew hBB10 (Nat.le_refl _), IntCells.step (W := wr.drew) hC8.out hBB10, hgb10⟩
          obtain ⟨rfl, rfl, hM10, hz10, hB10, hC10, hgb10⟩ := hcut
          have hw1 : IntKind.i64.wrap (pk q 70 - 1) = D := by rw [← hD]; exact IntWalk.i64_in _ (by omega)
          have HD := Lib.hid hD; clear hD
          by_cases hk0 : k = 0
          · subst hk0
            go_wp2_with fail
            go_quiet ((refine Calls.quiet_of_same (pick_still _ _ ?_ ?_ _) <;> omega))
            go_wp2_with fail
            go_roundw
            case rel => exact ⟨1, by omega, by go_num, hM10.step (below_drewN (Below.refl _ wc) _), hz10, below_drewN hB10 _, hC10⟩
            case measure => simp [intOf]; omega
          · obtain ⟨gb', he, _, hg1⟩ := hC10.out k hlt
            cases he
            obtain ⟨gb', he, _, hg2⟩ := hC10.out (k - 1) (by omega)
            cases he
            have hlt2 := HAS.out k hlt (by omega)
            rw [HX.out] at hg1 hlt2
            generalize MM[k - 1]?.getD 0 = x' at hg2 hlt2
            have hk1 : 0 < k := by omega
            have hk2 : (0 : Int) < (k : Int) := by omega
            have hdk : decide ((0 : Int) < (k : Int)) = true := decide_eq_true hk2
            have hdk2 : decide (0 < k) = true := decide_eq_true hk1
            have hw2 : IntKind.i64.wrap ((k : Int) - 1) = (k : Int) - 1 := IntWalk.i64_in _ (by omega)
            have hw3 : 0 ≤ (k : Int) - 1 := by omega
            have hw4 : ((k : Int) - 1).toNat = k - 1 := by omega
            have hw5 : (k : Int) - 1 < (MM.length : Int) := by omega
            go_wp2_with fail
            go_quiet ((refine Calls.quiet_of_same (pick_still _ _ ?_ ?_ _) <;> omega))
            go_wp2_with fail
            go_roundw
            case rel => exact ⟨k + 1, by omega, by go_num, hM10.step (below_drewN (Below.refl _ wc) _), hz10, below_drewN hB10 _, hC10⟩
            case measure => simp [intOf]; omega
        · go_wp2_with fail
          go_ret
          exact ⟨rfl, hB8⟩
end Go.Proofs.Ytmnilbaefimalaa
