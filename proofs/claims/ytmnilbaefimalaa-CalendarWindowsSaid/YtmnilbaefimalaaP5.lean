/- CalendarWindows: the walk. Its conditions: the integers fit, the row of integers lies in memory. -/
import Derived.Test.YtmnilbaefimalaaP4
import Derived.Test.YtmnilbaefimalaaM4
namespace Go.Proofs.Ytmnilbaefimalaa
open Go Go.RowKit Go.Shelf Go.Joins

/-- The cells of a row of spans. -/
def SpCells (W : World) (g : Option Addr) (zs : Sps) : Prop := ∀ j, j < zs.length → ∃ gb, g = some ⟨gb, 0, none⟩ ∧ gb < W.heap.size ∧ W.cell? ⟨gb, j * 2, none⟩ = some (.int .i64 (zs[j]?.getD default).1) ∧ W.cell? ⟨gb, j * 2 + 1, none⟩ = some (.int .i64 (zs[j]?.getD default).2)
theorem SpCells.step {W W' : World} {g : Option Addr} {zs : Sps} (h : SpCells W g zs) (hB : Below W.heap.size W W') : SpCells W' g zs := by
  intro j hj
  obtain ⟨gb, h1, h2, h3, h4⟩ := h j hj
  exact ⟨gb, h1, Nat.lt_of_lt_of_le h2 hB.size, (hB.cell (p := ⟨gb, j * 2, none⟩) h2).trans h3, (hB.cell (p := ⟨gb, j * 2 + 1, none⟩) h2).trans h4⟩
theorem own_sps {W : World} {n : Nat} {v : Value} {zs : Sps} (h : OwnSpans W n v zs) : ∃ g vc, v = .slice g zs.length vc ∧ SpCells W g zs := by
  by_cases h0 : 0 < zs.length
  · obtain ⟨g, cap, cur, rfl, _, hg, hcur⟩ := row_of_own h h0
    refine ⟨_, _, rfl, fun j hj => ⟨g, rfl, (Array.getElem?_eq_some_iff.1 hg).1, ?_, ?_⟩⟩
    · have := spanCells_get zs j (zs[j]?.getD default).1 (zs[j]?.getD default).2 (by rw [List.getElem?_eq_getElem hj]; rfl)
      rw [cell_of_block hg]
      exact hcur _ _ (by rw [Array.getElem?_toList]; exact this.1)
    · have := spanCells_get zs j (zs[j]?.getD default).1 (zs[j]?.getD default).2 (by rw [List.getElem?_eq_getElem hj]; rfl)
      rw [cell_of_block hg]
      exact hcur _ _ (by rw [Array.getElem?_toList]; exact this.2)
  · obtain ⟨a, c, rfl⟩ := own_shape h
    exact ⟨_, _, rfl, fun j hj => by omega⟩

theorem sane_made2 {w : World} {a : Option Addr} {len cap : Nat} {zs : List Int} (hI : RowIn w a len cap zs) {w1 : World} (hB : Below w.heap.size w w1) (h0 : w.heap.size < w1.heap.size) (o : Int) (ho : -9223372036854775808 ≤ o ∧ o ≤ 9223372036854775807) :
    Calls Try.prog 23 #[.int .i64 o, .slice a len cap] w1 fun e w2 => ∃ n ys sa b c, e = .returned (.agg #[.int .i64 (mkOff o), .slice sa (List.length ys) c]) ∧ Made n (mkOff o) ys sa b c w2 ∧ Below w1.heap.size w1 w2 := by
  obtain ⟨hl, b, of', ys, hA⟩ := intsAt_in hI hB (by omega)
  refine (made_any o ho a b of' len cap ys w1 hl hA).mono ?_
  rintro e w2 ⟨sa, b', c, rfl, hM, hB2⟩
  exact ⟨_, _, sa, b', c, rfl, hM, hB2⟩

theorem good_tot : ∀ {l : Sps} {lo hi : Int}, Good lo hi l → lo ≤ hi → 0 ≤ tot l ∧ tot l ≤ hi - lo
  | [], lo, hi, _, h => by simp only [tot]; omega
  | s :: r, lo, hi, ⟨h1, h2⟩, h => by
    rw [List.pairwise_cons] at h2
    have k := h1 s (by simp)
    have ih := good_tot (l := r) (lo := s.2) (hi := hi) ⟨fun t ht => by have := h1 t (by simp [ht]); have := h2.1 t ht; omega, h2.2⟩ (by omega)
    simp only [tot]
    omega
theorem good_len : ∀ {l : Sps} {lo hi : Int}, Good lo hi l → (l.length : Int) ≤ tot l
  | [], lo, hi, _ => by simp [tot]
  | s :: r, lo, hi, ⟨h1, h2⟩ => by
    rw [List.pairwise_cons] at h2
    have k := h1 s (by simp)
    have ih := good_len (l := r) (lo := lo) (hi := hi) ⟨fun t ht => h1 t (by simp [ht]), h2.2⟩
    simp only [tot, List.length_cons]
    omega
theorem good_take {l : Sps} {lo hi : Int} (h : Good lo hi l) (k : Nat) : Good lo hi (l.take k) := ⟨fun s hs => h.1 s (List.mem_of_mem_take hs), h.2.sublist (List.take_sublist _ _)⟩
theorem good_get {l : Sps} {lo hi : Int} (h : Good lo hi l) {k : Nat} (hk : k < l.length) : lo ≤ (l[k]?.getD default).1 ∧ (l[k]?.getD default).1 < (l[k]?.getD default).2 ∧ (l[k]?.getD default).2 ≤ hi := by
  rw [List.getElem?_eq_getElem hk]; exact h.1 _ (List.getElem_mem hk)
theorem good_prev {l : Sps} {lo hi : Int} (h : Good lo hi l) {k : Nat} (hk : k < l.length) (h0 : 0 < k) : (l[k - 1]?.getD default).2 < (l[k]?.getD default).1 := by
  rw [List.getElem?_eq_getElem hk, List.getElem?_eq_getElem (show k - 1 < l.length by omega)]
  exact List.pairwise_iff_getElem.1 h.2 (k - 1) k (by omega) hk (by omega)
theorem sps_take {l : Sps} {k : Nat} (h : k < l.length) : l.take (k + 1) = l.take k ++ [l[k]?.getD default] := by
  rw [List.take_succ_eq_append_getElem h, List.getElem?_eq_getElem h]; rfl
theorem tot_take {l : Sps} {k : Nat} (h : k < l.length) : tot (l.take (k + 1)) = tot (l.take k) + ((l[k]?.getD default).2 - (l[k]?.getD default).1) := by
  rw [sps_take h, tot_append]; simp [tot]
def inB (x : Int) (l : Sps) : Bool := l.any fun s => decide (s.1 ≤ x) && decide (x < s.2)
theorem inB_iff {x : Int} {l : Sps} : inB x l = true ↔ inS x l := by simp [inB, inS]
theorem inB_snoc (x u v : Int) (l : Sps) : inB x (l ++ [(u, v)]) = (inB x l || (decide (u ≤ x) && decide (x < v))) := by simp [inB]
def acc (L M : Sps) : Nat → Int
  | 0 => 0
  | 1 => tot L
  | _ => tot L + tot M

set_option maxRecDepth 100000 in
set_option maxHeartbeats 4000000 in
theorem windows_walk (o : Int) (a : Option Addr) (len cap : Nat) (zs : List Int) (p q n0 n1 r : Int) (w : World) (ho : -9223372036854775808 ≤ o ∧ o ≤ 9223372036854775807) (hI : RowIn w a len cap zs) (hp : -9223372036854775808 ≤ p ∧ p ≤ 9223372036854775807) (hq : -9223372036854775808 ≤ q ∧ q ≤ 9223372036854775807)
    (hn0 : -9223372036854775808 ≤ n0 ∧ n0 ≤ 9223372036854775807) (hn1 : -9223372036854775808 ≤ n1 ∧ n1 ≤ 9223372036854775807) (hr : -9223372036854775808 ≤ r ∧ r ≤ 9223372036854775807) :
    Calls Try.prog 8 #[.int .i64 o, .slice a len cap, .int .i64 p, .int .i64 q, .agg #[.int .i64 n0, .int .i64 n1], .int .i64 r] w fun e w' => e = .returned (.bool true) ∧ Below w.heap.size w w' := by
  have hpb := pk_bound p 5000000 (by omega)
  have hqb := pk_bound q 400000 (by omega)
  have hb0 := pk_bound n0 86400 (by omega)
  have hb1 := pk_bound n1 86400 (by omega)
  obtain ⟨F, hF⟩ : ∃ F, pk p 5000000 = F := ⟨_, rfl⟩
  obtain ⟨T, hT⟩ : ∃ T, F + pk q 400000 = T := ⟨_, rfl⟩
  obtain ⟨A, hA⟩ : ∃ A, pk n0 86400 = A := ⟨_, rfl⟩
  obtain ⟨B, hBd⟩ : ∃ B, pk n1 86400 = B := ⟨_, rfl⟩
  have dA : inDy A = true := by simp [inDy]; omega
  have dB : inDy B = true := by simp [inDy]; omega
  have HI := Lib.hid hI; clear hI
  go_enter Try.func8, Try.ntmps8
  go_wp2_with fail
  have hn := heap_at_new w (.cells #[.int .i64 n0, .int .i64 n1] 36)
  have hW0 : Below w.heap.size w (w.alloc (.cells #[.int .i64 n0, .int .i64 n1] 36)) := (Below.refl _ w).alloc (Nat.le_refl _) _
  generalize w.alloc (.cells #[.int .i64 n0, .int .i64 n1] 36) = w0 at *
  refine (sane_any w0).mono ?_
  rintro e w1 ⟨rfl, hB1, hz1⟩
  have hn := keep hB1 hn
  have hW1 := below_step hW0 hB1 (Nat.le_refl _)
  have hz1 : w.heap.size < w1.heap.size := by have := hW0.size; omega
  clear hW0 hB1
  go_wp2_with fail
  refine (sane_made2 HI.out hW1 hz1 o ho).mono ?_
  rintro e w2 ⟨n, ys, sa, b, zc, rfl, hM, hB2⟩
  have hn := keep hB2 hn
  have hW2 := below_step hW1 hB2 (Nat.le_refl _)
  clear hW1 hz1 hB2
  have hok := hM.ok
  have HG1 := Lib.hid (spans_good_law (F := F) (T := T) (a := A) (b := B) hok dA dB (by omega))
  have HG2 := Lib.hid (spans_good_law (F := F) (T := T) (a := B) (b := A) hok dB dA (by omega))
  have HT := Lib.hid (spans_tot (F := F) (T := T) (a := A) (b := B) hok dA dB (by omega) (by omega) (by omega))
  have HIN := Lib.hid (fun s => spans_in (F := F) (T := T) (a := A) (b := B) (s := s) hok dA dB (by omega) (by omega))
  have hM := hM.alloc (.cells #[.int .i64 (mkOff o), .slice sa ys.length zc] 24)
  have hn := some_of_alloc (.cells #[.int .i64 (mkOff o), .slice sa ys.length zc] 24) hn
  have hW := below_alloc hW2 (Nat.le_refl _) (.cells #[.int .i64 (mkOff o), .slice sa ys.length zc] 24)
  have hz := heap_at_new w2 (.cells #[.int .i64 (mkOff o), .slice sa ys.length zc] 24)
  clear hW2
  go_wp2_with fail
  generalize w2.alloc (.cells #[.int .i64 (mkOff o), .slice sa ys.length zc] 24) = w3 at *
  refine (pick_any p 5000000 hp (by omega) _).mono ?_
  rintro e w' ⟨rfl, rfl⟩
  rw [hF]
  go_wp2_with fail
  have hs4 := heap_at_new w3 (.cells #[.int .i64 F, .int .i64 0] 47)
  have hs5 := setCell_heap (W := (w3.alloc (.cells #[.int .i64 F, .int .i64 0] 47)).drew) hs4 1 (.int .i64 T)
  have hB35 : Below w3.heap.size w3 ((w3.alloc (.cells #[.int .i64 F, .int .i64 0] 47)).drew.setCell ⟨w3.heap.size, 1, none⟩ (.int .i64 T)) := (((Below.refl _ w3).alloc (Nat.le_refl _) _).drew).setCell (p := ⟨w3.heap.size, 1, none⟩) (Nat.le_refl _) _
  have hl3 : w3.heap.size < (w3.alloc (.cells #[.int .i64 F, .int .i64 0] 47)).heap.size := by simp
  generalize w3.alloc (.cells #[.int .i64 F, .int .i64 0] 47) = w4 at *
  have s0 := cell_of_block hs4 0
  have f1 := frozen_of_block hs4 1
  have f0 := frozen_of_block hs4 0
  simp at s0
  refine wp_region_still_tail 6 (by kernel_rfl) (by kernel_rfl) ?_
  simp only [List.take_succ_cons, List.take_zero, List.drop_succ_cons, List.drop_zero]
  repeat still_step
  still_call (pick_still q 400000 hq (by omega) _)
  repeat still_step
  refine wpStill_nil ?_
  change wpList _ _ _ _ _ w4.drew
  have f1' : w4.drew.frozen? ⟨w3.heap.size, 1, none⟩ = false := f1
  have s1 := cell_of_block hs4 1
  have s1' : w4.drew.cell? ⟨w3.heap.size, 1, none⟩ = some (.int .i64 0) := by simpa using s1
  have hl3' : w3.heap.size < w4.drew.heap.size := hl3
  generalize w4.drew = w5 at *
  clear s0 s1 f0 f1
  go_upto_region 5 with fail
  generalize w5.setCell ⟨w3.heap.size, 1, none⟩ (.int .i64 T) = w6 at *
  have hM6 := hM.step hB35
  have hn6 := keep hB35 hn
  have hz6 := keep hB35 hz
  have hW6 := below_step hW hB35 (Nat.le_refl _)
  simp at hs5
  clear hM hn hz hW hB35 hs4 f1' s1' hl3' hl3
  have c0 := cell_of_block hz6 0
  have c1 := cell_of_block hz6 1
  have s0 := cell_of_block hs5 0
  have s1 := cell_of_block hs5 1
  have d0 := cell_of_block hn6 0
  have d1 := cell_of_block hn6 1
  simp at c0 c1 s0 s1 d0 d1
  go_wp2_with fail
  refine (pick_any n0 86400 hn0 (by omega) _).mono ?_
  rintro e w' ⟨rfl, rfl⟩
  rw [hA]
  go_wp2_with fail
  refine (pick_any n1 86400 hn1 (by omega) _).mono ?_
  rintro e w' ⟨rfl, rfl⟩
  rw [hBd]
  go_wp2_with fail
  refine (made_spans hM6 F T A B (by omega) (by omega) dA dB).mono ?_
  rintro e w7 ⟨v, rfl, hv, hM7, hB7⟩
  obtain ⟨g1, v1, rfl, hC1⟩ := own_sps hv
  have hz7 := keep hB7 hz6
  have hs7 := keep hB7 hs5
  have c0 := cell_of_block hz7 0
  have c1 := cell_of_block hz7 1
  have s0 := cell_of_block hs7 0
  have s1 := cell_of_block hs7 1
  simp at c0 c1 s0 s1
  go_wp2_with fail
  refine (made_spans hM7 F T B A (by omega) (by omega) dB dA).mono ?_
  rintro e w8 ⟨v, rfl, hv2, hM8, hB8⟩
  obtain ⟨g2, v2, rfl, hC2⟩ := own_sps hv2
  have hz8 := keep hB8 hz7
  have hs8 := keep hB8 hs7
  have hC1 := hC1.step hB8
  have hW8 := below3 hW6 hB7 hB8
  clear hM6 hn6 hz6 hs5 hW6 hM7 hz7 hs7 hB7 hB8 hv hv2 d0 d1 c0 c1 s0 s1
  generalize spans' (mkOff o) ys F T A B = L at *
  generalize spans' (mkOff o) ys F T B A = M at *
  have HC1 := Lib.hid hC1; clear hC1
  have HC2 := Lib.hid hC2; clear hC2
  go_wp2_with fail
  have hk := heap_at_new w8 (.cells #[.slice g1 L.length v1, .slice g2 M.length v2] 48)
  have hB89 : Below w8.heap.size w8 (w8.alloc (.cells #[.slice g1 L.length v1, .slice g2 M.length v2] 48)) := (Below.refl _ w8).alloc (Nat.le_refl _) _
  generalize w8.alloc (.cells #[.slice g1 L.length v1, .slice g2 M.length v2] 48) = w9 at *
  have hM9 := hM8.step hB89
  have hz9 := keep hB89 hz8
  have hs9 := keep hB89 hs8
  have hW9 := below_step hW8 hB89 (Nat.le_refl _)
  have HC1 : Hid (SpCells w9 g1 L) := HC1.out.step hB89
  have HC2 : Hid (SpCells w9 g2 M) := HC2.out.step hB89
  clear hM8 hz8 hs8 hW8 hB89
  have ht1 := good_tot HG1.out (by omega)
  have ht2 := good_tot HG2.out (by omega)
  go_loopw [20, 60] (fun t i wr => ∃ (k : Nat), k ≤ 2 ∧ i = .int .i64 k ∧ t = .int .i64 (acc L M k) ∧ Below w9.heap.size w9 wr) (fun _ i _ => 2 - (intOf i).toNat)
  case atStart => exact ⟨0, by omega, rfl, rfl, Below.refl _ _⟩
  case round =>
    obtain ⟨k, hk2, rfl, rfl, hB9⟩ := hrel
    have hkk := keep hB9 hk
    have hzz := keep hB9 hz9
    have hss := keep hB9 hs9
    by_cases hlt : k < 2
    · obtain ⟨g, X, vX, hcell, hGX, hCX, hacc, haccb⟩ : ∃ (g : Option Addr) (X : Sps) (vX : Nat), wr.cell? ⟨w8.heap.size, k, none⟩ = some (.slice g X.length vX) ∧ Hid (Good F T X) ∧ Hid (SpCells wr g X) ∧ Hid (acc L M (k + 1) = acc L M k + tot X) ∧ (0 ≤ acc L M k ∧ acc L M k ≤ 400000) := by
        match k, hlt with
        | 0, _ => exact ⟨g1, L, v1, cell_of_block hkk 0, HG1, HC1.out.step hB9, by show tot L = 0 + tot L; omega, by show 0 ≤ 0 ∧ 0 ≤ 400000; omega⟩
        | 1, _ => exact ⟨g2, M, v2, cell_of_block hkk 1, HG2, HC2.out.step hB9, rfl, by show 0 ≤ tot L ∧ tot L ≤ 400000; omega⟩
      have hwk : w8.heap.size < wr.heap.size := (Array.getElem?_eq_some_iff.1 hkk).1
      generalize acc L M k = S at *
      go_wp2_with fail
      obtain ⟨wo, hwo⟩ : ∃ wo : World, wo = wr := ⟨_, rfl⟩
      rw [← hwo] at hB9 hkk hzz hss hcell hCX
      clear hcell hkk
      subst hwo
      go_loopw [20, 23] (fun t i wr => ∃ (j : Nat), j ≤ X.length ∧ i = .int .i64 j ∧ t = .int .i64 (S + tot (X.take j)) ∧ Below wo.heap.size wo wr) (fun _ i _ => X.length - (intOf i).toNat)
      case atStart => exact ⟨0, by omega, rfl, by simp [tot], Below.refl _ _⟩
      case round =>
        obtain ⟨j, hj, rfl, rfl, hB10⟩ := hrel
        have hssw := keep hB10 hss
        have s0 := cell_of_block hssw 0
        have s1 := cell_of_block hssw 1
        simp at s0 s1
        by_cases hlt2 : j < X.length
        · obtain ⟨gx, rfl, hgx, hx0, hx1⟩ := hCX.out.step hB10 j hlt2
          have hget := good_get hGX.out hlt2
          have htk := tot_take hlt2
          have hbt := good_tot (good_take hGX.out j) (by omega)
          have hbt2 := good_tot (good_take hGX.out (j + 1)) (by omega)
          obtain ⟨y, hy⟩ : ∃ y, X[j]?.getD default = y := ⟨_, rfl⟩
          obtain ⟨u, v⟩ := y
          rw [hy] at hx0 hx1 hget htk
          dsimp only at hx0 hx1 hget htk
          have HY := Lib.hid hy; clear hy
          generalize hP : tot (X.take j) = P at *
          have HTK := Lib.hid htk; clear htk
          have hbv : P + (v - u) ≤ 400000 ∧ 0 ≤ P + (v - u) := by have := HTK.out; omega
          clear hbt2
          have HP := Lib.hid hP; clear hP
          have i1 : (j : Int) < (X.length : Int) := by omega
          have i2 : (X.length : Int) ≤ 400000 := by have h1 := good_len hGX.out; have h2 := good_tot hGX.out (by omega); omega
          obtain ⟨q1, q2, q3⟩ := hget
          have e1 : decide (v ≤ u) = false := by simp; omega
          have e2 : decide (u < F) = false := by simp; omega
          have e3 : decide (T < v) = false := by simp; omega
          by_cases hj0 : j = 0
          · subst hj0
            go_wp2_with fail
            go_quiet (fail)
            go_wp2_with fail
            go_quiet (fail)
            go_wp2_with fail
            go_roundw
            case rel => exact ⟨1, by omega, rfl, by rw [HTK.out]; congr 1; omega, below_drewN hB10 _⟩
            case measure => simp [intOf]; omega
          · obtain ⟨gx', he, _, _, hx3⟩ := hCX.out.step hB10 (j - 1) (by omega)
            cases he
            have hprev := good_prev hGX.out hlt2 (by omega)
            rw [HY.out] at hprev
            dsimp only at hprev
            generalize (X[j - 1]?.getD default).2 = v' at hx3 hprev
            have e4 : decide (u ≤ v') = false := by simp; omega
            have hk1 : 0 < j := by omega
            have hk2 : (0 : Int) < (j : Int) := by omega
            have hdk : decide ((0 : Int) < (j : Int)) = true := decide_eq_true hk2
            have hdk2 : decide (0 < j) = true := decide_eq_true hk1
            have hw2 : IntKind.i64.wrap ((j : Int) - 1) = (j : Int) - 1 := IntWalk.i64_in _ (by omega)
            have hw3 : 0 ≤ (j : Int) - 1 := by omega
            have hw4 : ((j : Int) - 1).toNat = j - 1 := by omega
            have hw5 : (j : Int) - 1 < (X.length : Int) := by omega
            go_wp2_with fail
            go_quiet (fail)
            go_wp2_with fail
            go_quiet (fail)
            go_wp2_with fail
            go_roundw
            case rel => exact ⟨j + 1, by omega, by go_num, by rw [HTK.out]; congr 1; omega, below_drewN hB10 _⟩
            case measure => simp [intOf]; omega
        · have hXX : tot (X.take j) = tot X := by rw [List.take_of_length_le (by omega)]
          rw [hXX]
          have hXt := good_tot hGX.out (by omega)
          have HA := hacc.out
          generalize tot X = Z at *
          have HA := Lib.hid HA
          go_wp2_with fail
          go_roundw
          case rel => exact ⟨k + 1, by omega, by go_num, by rw [HA.out], below_step hB9 hB10 (Nat.le_refl _)⟩
          case measure => simp [intOf]; omega
    · obtain rfl : k = 2 := by omega
      have hS : acc L M 2 = tot L + tot M := rfl
      rw [hS]
      have hzz := keep hB9 hz9
      have hss := keep hB9 hs9
      have hM10 := hM9.step hB9
      have HC1 : Hid (SpCells wr g1 L) := HC1.out.step hB9
      have hW10 := below_step hW9 hB9 (Nat.le_refl _)
      have s0 := cell_of_block hss 0
      have s1 := cell_of_block hss 1
      have c0 := cell_of_block hzz 0
      have c1 := cell_of_block hzz 1
      simp at s0 s1 c0 c1
      have hTT : (A = B ∧ tot L + tot M = 2 * (T - F)) ∨ (A ≠ B ∧ tot L + tot M = T - F) := by
        have h := HT.out
        by_cases hAB : A = B
        · rw [if_pos hAB] at h; exact .inl ⟨hAB, h⟩
        · rw [if_neg hAB, Int.one_mul] at h; exact .inr ⟨hAB, h⟩
      have i2 : (L.length : Int) ≤ 400000 := by have h1 := good_len HG1.out; omega
      generalize tot L + tot M = Z at *
      by_cases hFT : F = T
      · rcases hTT with ⟨hAB, hZ⟩ | ⟨hAB, hZ⟩
        · subst hZ
          go_wp2_with fail
          go_ret
          exact ⟨rfl, hW10⟩
        · subst hZ
          go_wp2_with fail
          go_ret
          exact ⟨rfl, hW10⟩
      obtain ⟨x, hx⟩ : ∃ x, F + pk r (T - F) = x := ⟨_, rfl⟩
      have hxb := pk_bound r (T - F) (by omega)
      have hwx := HIN.out x (by omega) (by omega)
      have HWX := Lib.hid hwx; clear hwx
      have hxb2 : F ≤ x ∧ x < T := by omega
      rcases hTT with ⟨hAB, hZ⟩ | ⟨hAB, hZ⟩
      all_goals
        subst hZ
        go_wp2_with fail
        go_quiet ((refine Calls.quiet_of_same (pick_still _ _ ?_ ?_ _) <;> omega))
        go_wp2_with fail
        clear hAB
        have hM11 : Made n (mkOff o) ys sa b zc (wr.drewN nq) := hM10.step (below_drewN (Below.refl _ wr) _)
        have hzz11 : (wr.drewN nq).heap[w2.heap.size]? = _ := hzz
        have HC11 : Hid (SpCells (wr.drewN nq) g1 L) := HC1
        have hW11 := below_drewN hW10 nq
        generalize wr.drewN nq = wx at *
        clear hM10 hzz HC1 hW10 s0 s1 c0 c1 hss hB9
        go_loopw [25, 26] (fun t i wr => ∃ (k : Nat) (fo : Bool), k ≤ L.length ∧ i = .int .i64 k ∧ t = .bool fo ∧ Hid (inB x (L.take k) = fo) ∧ wr = wx) (fun _ i _ => L.length - (intOf i).toNat)
        case atStart => exact ⟨0, _, by omega, rfl, rfl, rfl, rfl⟩
        case round =>
          obtain ⟨k, fo, hk3, rfl, rfl, hfo, rfl⟩ := hrel
          by_cases hlt : k < L.length
          · obtain ⟨gx, rfl, hgx, hx0, hx1⟩ := HC11.out k hlt
            have hst : inB x (L.take (k + 1)) = (fo || (decide ((L[k]?.getD default).1 ≤ x) && decide (x < (L[k]?.getD default).2))) := by
              rw [sps_take hlt, show L[k]?.getD default = ((L[k]?.getD default).1, (L[k]?.getD default).2) from rfl, inB_snoc, hfo.out]
            generalize L[k]?.getD default = y at *
            obtain ⟨u, v⟩ := y
            dsimp only at hx0 hx1 hst
            have HST := Lib.hid hst; clear hst
            cases fo with
            | true =>
              go_wp2_with fail
              go_roundw
              case rel => exact ⟨k + 1, true, by omega, by go_num, rfl, (by show inB _ _ = _; rw [HST.out]; rfl), trivial⟩
              case measure => simp [intOf]; omega
            | false =>
              by_cases p1 : u ≤ x
              · by_cases p2 : x < v
                · go_wp2_with fail
                  go_roundw
                  case rel => exact ⟨k + 1, true, by omega, by go_num, rfl, (by show inB _ _ = _; rw [HST.out]; simp [p1, p2]), trivial⟩
                  case measure => simp [intOf]; omega
                · go_wp2_with fail
                  go_roundw
                  case rel => exact ⟨k + 1, false, by omega, by go_num, rfl, (by show inB _ _ = _; rw [HST.out]; simp [p1, p2]), trivial⟩
                  case measure => simp [intOf]; omega
              · go_wp2_with fail
                go_roundw
                case rel => exact ⟨k + 1, false, by omega, by go_num, rfl, (by show inB _ _ = _; rw [HST.out]; simp [p1]), trivial⟩
                case measure => simp [intOf]; omega
          · have hfin : within' (mkOff o) ys x A B = fo := by
              have h1 := hfo.out
              rw [List.take_of_length_le (by omega)] at h1
              have h2 := HWX.out
              rw [← inB_iff, h1] at h2
              cases fo <;> cases hw : within' (mkOff o) ys x A B <;> simp_all
            have HFIN := Lib.hid hfin; clear hfin
            have c0 := cell_of_block hzz11 0
            have c1 := cell_of_block hzz11 1
            simp at c0 c1
            go_wp2_with fail
            refine (made_within hM11 x A B).mono ?_
            rintro e w12 ⟨rfl, hM12, hB12⟩
            rw [HFIN.out]
            go_wp2_with fail
            go_ret
            exact ⟨rfl, below_step hW11 hB12 (Nat.le_refl _)⟩
end Go.Proofs.Ytmnilbaefimalaa
