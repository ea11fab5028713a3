/- CalendarDays: the walk. Its conditions: the integers fit, the row of integers lies in memory. -/
import Derived.Test.YtmnilbaefimalaaP3
import Derived.Test.YtmnilbaefimalaaM3
namespace Go.Proofs.Ytmnilbaefimalaa
open Go Go.RowKit Go.Shelf Go.Joins

theorem at_bound {off : Int} {ys : Sh} {d k s : Int} (h : valid off ys = true) (hs : s ∈ at' off ys d k) : 0 ≤ s ∧ s ≤ 10000000000 := by
  unfold at' at hs
  split at hs
  · obtain ⟨x, hx, _, h1, h2⟩ := atAll_mem.1 hs
    have := strs_ok h x hx
    omega
  · simp at hs
theorem length_bound {off : Int} {ys : Sh} (h : valid off ys = true) (d : Int) : 0 ≤ length' off ys d ∧ length' off ys d ≤ 3600000 := by
  unfold length'
  split
  · have h1 := sumLen_bound (day := d) (strs_ok h)
    have h2 := strs_length ys 0 off
    have h3 := valid_len h
    omega
  · omega
theorem sumDays_bound {off : Int} {ys : Sh} (h : valid off ys = true) (f : Int) : ∀ n : Nat, 0 ≤ sumDays off ys f n ∧ sumDays off ys f n ≤ 3600000 * (n : Int)
  | 0 => by simp [sumDays]
  | n + 1 => by
    have h1 := sumDays_bound h f n
    have h2 := length_bound h (f + (n : Int))
    simp only [sumDays]
    omega
theorem below3 {w A B C : World} (h : Below w.heap.size w A) (h1 : Below A.heap.size A B) (h2 : Below B.heap.size B C) : Below w.heap.size w C := below_step (below_step h h1 (Nat.le_refl _)) h2 (Nat.le_refl _)
def FarAt (a : Int) (u : Int) : Prop := ¬ (a - 200000 < u ∧ u < a + 200000)

set_option maxRecDepth 100000 in
set_option maxHeartbeats 4000000 in
theorem days_walk (o : Int) (a : Option Addr) (len cap : Nat) (zs : List Int) (q r : Int) (w : World) (ho : -9223372036854775808 ≤ o ∧ o ≤ 9223372036854775807) (hI : RowIn w a len cap zs) (hq : -9223372036854775808 ≤ q ∧ q ≤ 9223372036854775807) (hr : -9223372036854775808 ≤ r ∧ r ≤ 9223372036854775807) :
    Calls Try.prog 5 #[.int .i64 o, .slice a len cap, .int .i64 q, .int .i64 r] w fun e w' => e = .returned (.bool true) ∧ Below w.heap.size w w' := by
  have hqb := pk_bound q 60 (by omega)
  have hrb := pk_bound r 12 (by omega)
  obtain ⟨f, hf⟩ : ∃ f, 2 + pk q 60 = f := ⟨_, rfl⟩
  obtain ⟨N, hN⟩ : ∃ N : Nat, pk r 12 = (N : Int) := Int.eq_ofNat_of_zero_le hrb.1
  obtain ⟨l, hl⟩ : ∃ l, f + pk r 12 = l := ⟨_, rfl⟩
  have HI := Lib.hid hI; clear hI
  go_enter Try.func5, Try.ntmps5
  go_wp2_with fail
  refine (sane_any w).mono ?_
  rintro e w1 ⟨rfl, hB1, hz1⟩
  go_wp2_with fail
  refine (sane_made HI.out hB1 hz1 o ho).mono ?_
  rintro e w2 ⟨n, ys, sa, b, zc, rfl, hM, hyb, hB2⟩
  clear hB1 hz1
  have H3 := Lib.hid hyb; clear hyb
  have hok := hM.ok
  have LAW : ∀ a0 b0 : Int, at' (mkOff o) ys f 0 = [a0] → at' (mkOff o) ys l 0 = [b0] → (∀ y ∈ ys, FarAt a0 y.1) → (∀ y ∈ ys, FarAt b0 y.1) → sumDays (mkOff o) ys f N = b0 - a0 := fun a0 b0 h1 h2 h3 h4 =>
    days_law hM.ok (by omega) (by omega) h1 (by rw [← hN, hl]; exact h2) h3 h4
  have HL := Lib.hid LAW; clear LAW
  have hNl : l = f + (N : Int) := by omega
  have HN := Lib.hid hN; clear hN
  have HNL := Lib.hid hNl; clear hNl
  have hM := hM.alloc (.cells #[.int .i64 (mkOff o), .slice sa ys.length zc] 24)
  have hB := below_alloc hB2 (Nat.le_refl _) (.cells #[.int .i64 (mkOff o), .slice sa ys.length zc] 24)
  have hz := heap_at_new w2 (.cells #[.int .i64 (mkOff o), .slice sa ys.length zc] 24)
  clear hB2
  go_wp2_with fail
  refine (pick_any q 60 hq (by omega) _).mono ?_
  rintro e w' ⟨rfl, rfl⟩
  go_wp2_with fail
  refine (pick_any r 12 hr (by omega) _).mono ?_
  rintro e w' ⟨rfl, rfl⟩
  generalize w2.alloc (.cells #[.int .i64 (mkOff o), .slice sa ys.length zc] 24) = W at *
  have c0 := cell_of_block hz 0
  have c1 := cell_of_block hz 1
  simp at c0 c1
  go_wp2_with fail
  refine (made_at hM f 0).mono ?_
  rintro e w4 ⟨v, rfl, hv, hM4, hB4⟩
  obtain ⟨g1, v1, rfl, hC1⟩ := own_ints hv
  have hz4 := keep hB4 hz
  have c0 := cell_of_block hz4 0
  have c1 := cell_of_block hz4 1
  simp at c0 c1
  go_wp2_with fail
  refine (made_at hM4 l 0).mono ?_
  rintro e w5 ⟨v, rfl, hv2, hM5, hB5⟩
  obtain ⟨g2, v2, rfl, hC2⟩ := own_ints hv2
  have hz5 := keep hB5 hz4
  have hC1 := hC1.step hB5
  have c0 := cell_of_block hz5 0
  have c1 := cell_of_block hz5 1
  simp at c0 c1
  have hBB := below3 hB hB4 hB5
  clear hM hM4 hB hB4 hB5 hz hz4 hv hv2
  have hll1 := at_len (off := mkOff o) f 0 hM5.few
  have hll2 := at_len (off := mkOff o) l 0 hM5.few
  generalize hLA : at' (mkOff o) ys f 0 = LA at *
  generalize hLB : at' (mkOff o) ys l 0 = LB at *
  have HLA := Lib.hid hLA; clear hLA
  have HLB := Lib.hid hLB; clear hLB
  have HC1 := Lib.hid hC1; clear hC1
  have HC2 := Lib.hid hC2; clear hC2
  by_cases hA : LA.length = 1
  case neg =>
    go_wp2_with fail
    go_ret
    exact ⟨rfl, hBB⟩
  by_cases hB1 : LB.length = 1
  case neg =>
    go_wp2_with fail
    go_ret
    exact ⟨rfl, hBB⟩
  obtain ⟨a0, rfl⟩ := List.length_eq_one_iff.1 hA
  obtain ⟨b0, rfl⟩ := List.length_eq_one_iff.1 hB1
  have ba := at_bound (s := a0) hok (by rw [HLA.out]; simp)
  have bb := at_bound (s := b0) hok (by rw [HLB.out]; simp)
  obtain ⟨ga, rfl, hga, hg1⟩ := HC1.out 0 (by simp)
  obtain ⟨gb, rfl, hgb, hg2⟩ := HC2.out 0 (by simp)
  simp only [List.getElem?_cons_zero, Option.getD_some] at hg1 hg2
  simp only [List.length_singleton] at *
  go_wp2_with fail
  go_loopw [15] (fun i wr => ∃ (k : Nat), k ≤ ys.length ∧ i = .int .i64 k ∧ Hid (∀ j, j < k → FarAt a0 (ys[j]?.getD default).1 ∧ FarAt b0 (ys[j]?.getD default).1) ∧ wr = w5) (fun i _ => ys.length - (intOf i).toNat)
  case atStart => exact ⟨0, Nat.zero_le _, rfl, fun j hj => absurd hj (Nat.not_lt_zero _), rfl⟩
  case round =>
    obtain ⟨k, hk, rfl, hfar, rfl⟩ := hrel
    have hfew := hM5.few
    by_cases hlt : k < ys.length
    · obtain ⟨y, hy⟩ : ∃ y, ys[k]?.getD default = y := ⟨_, rfl⟩
      obtain ⟨u, v⟩ := y
      obtain rfl : sa = some ⟨b, 0, none⟩ := hM5.sh.ad.resolve_left (by omega)
      have g0 := hM5.sh.c0 k hlt
      rw [hy] at g0
      simp only [Nat.zero_add] at g0
      have hmem : (u, v) ∈ ys := by rw [← hy, List.getElem?_eq_getElem hlt]; exact List.getElem_mem hlt
      have hu := H3.out _ hmem
      dsimp only at hu
      have HY := Lib.hid hy; clear hy hmem
      by_cases p1 : a0 - 200000 < u ∧ u < a0 + 200000
      · obtain ⟨p1, p2⟩ := p1
        go_wp2_with fail
        go_ret
        exact ⟨rfl, hBB⟩
      by_cases p2 : b0 - 200000 < u ∧ u < b0 + 200000
      · obtain ⟨p2, p3⟩ := p2
        by_cases p4 : a0 - 200000 < u
        · have p5 : ¬ u < a0 + 200000 := by omega
          go_wp2_with fail
          go_ret
          exact ⟨rfl, hBB⟩
        · go_wp2_with fail
          go_ret
          exact ⟨rfl, hBB⟩
      have hnext : Hid (∀ j, j < k + 1 → FarAt a0 (ys[j]?.getD default).1 ∧ FarAt b0 (ys[j]?.getD default).1) := by
        intro j hj
        by_cases hjk : j = k
        · subst hjk; rw [HY.out]; exact ⟨p1, p2⟩
        · exact hfar.out j (by omega)
      by_cases q1 : a0 - 200000 < u
      · have q2 : ¬ u < a0 + 200000 := by omega
        by_cases q3 : b0 - 200000 < u
        · have q4 : ¬ u < b0 + 200000 := by omega
          go_wp2_with fail
          go_roundw
          case rel => exact ⟨k + 1, by omega, by go_num, hnext, trivial⟩
          case measure => simp [intOf]; omega
        · go_wp2_with fail
          go_roundw
          case rel => exact ⟨k + 1, by omega, by go_num, hnext, trivial⟩
          case measure => simp [intOf]; omega
      · by_cases q3 : b0 - 200000 < u
        · have q4 : ¬ u < b0 + 200000 := by omega
          go_wp2_with fail
          go_roundw
          case rel => exact ⟨k + 1, by omega, by go_num, hnext, trivial⟩
          case measure => simp [intOf]; omega
        · go_wp2_with fail
          go_roundw
          case rel => exact ⟨k + 1, by omega, by go_num, hnext, trivial⟩
          case measure => simp [intOf]; omega
    · have hall : ∀ y ∈ ys, FarAt a0 y.1 ∧ FarAt b0 y.1 := by
        intro y hy
        obtain ⟨j, hj, rfl⟩ := List.getElem_of_mem hy
        have := hfar.out j (by omega)
        rw [List.getElem?_eq_getElem hj] at this
        exact this
      have hsum := HL.out a0 b0 rfl rfl (fun y hy => (hall y hy).1) (fun y hy => (hall y hy).2)
      have HS := Lib.hid hsum; clear hsum hall
      have hlf : l = f + (N : Int) := HNL.out
      have hNb : N < 12 := by have := HN.out; omega
      go_wp2_with fail
      obtain ⟨wo, hwo⟩ : ∃ wo : World, wo = wr := ⟨_, rfl⟩
      clear c0 c1
      have HLF := Lib.hid hlf; clear hlf
      have hfl : f ≤ l := by have := HLF.out; omega
      subst hwo
      go_loopw [17, 18] (fun t d wr => ∃ (j : Nat) (S : Int), j ≤ N ∧ t = .int .i64 S ∧ d = .int .i64 (f + (j : Int)) ∧ Hid (sumDays (mkOff o) ys f j = S) ∧ Made n (mkOff o) ys sa b zc wr ∧ Below wo.heap.size wo wr) (fun _ d _ => (l - intOf d).toNat)
      case atStart => exact ⟨0, 0, Nat.zero_le _, rfl, by simp, rfl, hM5, Below.refl _ _⟩
      case round =>
        obtain ⟨j, S, hj, rfl, rfl, hS, hM6, hB6⟩ := hrel
        have hz6 := keep hB6 hz5
        have c0 := cell_of_block hz6 0
        have c1 := cell_of_block hz6 1
        simp at c0 c1
        have hSb := sumDays_bound hok f j
        rw [hS.out] at hSb
        by_cases hlt2 : j < N
        · have hlt3 : f + (j : Int) < l := by have := HLF.out; omega
          have hlb := length_bound hok (f + (j : Int))
          have hnext : Hid (sumDays (mkOff o) ys f (j + 1) = S + length' (mkOff o) ys (f + (j : Int))) := by show sumDays _ _ _ _ = _; rw [sumDays, hS.out]
          obtain ⟨ln, hln⟩ : ∃ ln, length' (mkOff o) ys (f + (j : Int)) = ln := ⟨_, rfl⟩
          rw [hln] at hlb hnext
          have HLN := Lib.hid hln; clear hln
          go_wp2_with fail
          refine (made_length hM6 (f + (j : Int))).mono ?_
          rintro e w7 ⟨rfl, hM7, hB7⟩
          rw [HLN.out]
          go_wp2_with fail
          go_roundw
          case rel => exact ⟨j + 1, S + ln, by omega, rfl, by simp; omega, hnext, hM7, below_step hB6 hB7 (Nat.le_refl _)⟩
          case measure => simp [intOf]; omega
        · have hlt3 : ¬ f + (j : Int) < l := by have := HLF.out; omega
          obtain rfl : j = N := by omega
          have e1 : S = b0 - a0 := by rw [← hS.out]; exact HS.out
          have hg1 := (hB6.cell (p := ⟨ga, 0, none⟩) hga).trans hg1
          have hg2 := (hB6.cell (p := ⟨gb, 0, none⟩) hgb).trans hg2
          subst e1
          go_wp2_with fail
          go_quiet (fail)
          go_wp2_with fail
          go_ret
          exact ⟨rfl, below_drewN (below_step hBB hB6 (Nat.le_refl _)) _⟩
end Go.Proofs.Ytmnilbaefimalaa
