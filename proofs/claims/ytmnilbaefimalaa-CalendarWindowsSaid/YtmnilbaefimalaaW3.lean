/- The contract of calendar.Length. Condition: the zone's shifts lie in memory that was there before the call, fewer than 10^9 of them. -/
import Derived.Test.YtmnilbaefimalaaW2
namespace Go.Proofs.Ytmnilbaefimalaa
open Go Go.RowKit Go.Shelf
attribute [local go_sem] Oper.semAt_some

theorem cell_eq {a b : Int} (h : a = b) : some (Obj.cells #[.int .i64 a] 3) = some (.cells #[.int .i64 b] 3) := by rw [h]

set_option maxHeartbeats 400000 in
theorem length_bad (off : Int) (sa : Option Addr) (b o len cap : Nat) (ys : Sh) (s : Int) (w : World) (hm : len ≤ 1000000000) (hS : ShAt w.heap.size w sa b o len ys) (hbad : (valid off ys && isDy s) = false) :
    Calls Try.prog 16 #[.agg #[.int .i64 off, .slice sa len cap], .int .i64 s] w fun e w' => e = .returned (.int .i64 (length' off ys s)) ∧ Below w.heap.size w w' := by
  have HL : length' off ys s = 0 := by unfold length'; rw [hbad]; rfl
  rw [HL]
  clear HL
  have hv := valid_any off sa b o len cap ys ((w.alloc (.cells #[.int .i64 off, .slice sa len cap] 24)).alloc (.cells #[.int .i64 s] 3)) hm ((hS.low (((Low.refl _ w).alloc (Nat.le_refl _) _).alloc (Nat.le_refl _) _) (Nat.le_refl _)).up (by simp; omega))
  have HV := Lib.hid hv; clear hv
  rcases Bool.eq_false_or_eq_true (valid off ys) with h1 | h1
  · rcases Bool.eq_false_or_eq_true (isDy s) with h2 | h2
    · simp [h1, h2] at hbad
    clear hbad
    go_enter Try.func16, Try.ntmps16
    go_wp2_with fail
    refine HV.out.mono ?_
    rintro e w1 ⟨rfl, hB⟩
    obtain ⟨_, hs1, _, hBw⟩ := after2 hB
    have c1 := cell_of_block hs1 0
    simp at c1
    go_wp2_with (first | (go_at_call 30; refine (isDay_any _ _).mono ?_; rintro e w' ⟨rfl, rfl⟩))
    go_ret
    exact ⟨rfl, hBw⟩
  · clear hbad
    go_enter Try.func16, Try.ntmps16
    go_wp2_with fail
    refine HV.out.mono ?_
    rintro e w1 ⟨rfl, hB⟩
    obtain ⟨_, _, _, hBw⟩ := after2 hB
    go_wp2
    go_ret
    exact ⟨rfl, hBw⟩

set_option maxRecDepth 100000 in
set_option maxHeartbeats 1000000 in
theorem length_good (off : Int) (sa : Option Addr) (b o len cap : Nat) (ys : Sh) (s : Int) (w : World) (hm : len ≤ 1000000000) (hS : ShAt w.heap.size w sa b o len ys) (h1 : valid off ys = true) (h2 : isDy s = true) :
    CallsIn Fence.wide 5 Try.prog 16 #[.agg #[.int .i64 off, .slice sa len cap], .int .i64 s] w fun e w' => e = .returned (.int .i64 (length' off ys s)) ∧ Below w.heap.size w w' := by
  have HL : length' off ys s = sumLen s (strs 0 off ys) := by unfold length'; rw [h1, h2]; rfl
  rw [HL]
  clear HL
  have hv := valid_any off sa b o len cap ys ((w.alloc (.cells #[.int .i64 off, .slice sa len cap] 24)).alloc (.cells #[.int .i64 s] 3)) hm ((hS.low (((Low.refl _ w).alloc (Nat.le_refl _) _).alloc (Nat.le_refl _) _) (Nat.le_refl _)).up (by simp; omega))
  have HV := Lib.hid hv; clear hv
  have HX := Lib.hid (strs_ok h1)
  have HN := Lib.hid (valid_len h1)
  have hsb : -1 ≤ s ∧ s ≤ 115741 := by simpa [isDy] using h2
  have HS := Lib.hid hS; clear hS
  refine callsIn_of_wp_marks Try.func16 rfl trivial ?_ rfl
  simp only [Try.ntmps16, List.size_toArray, List.length_cons, List.length_nil, Nat.reduceAdd, Nat.reduceSub, Array.replicate_succ, Array.replicate_zero, List.push_toArray, List.append_toArray, List.nil_append, List.cons_append]
  gi_wp2_with fail
  refine ⟨trivial, (callsIn_wide.2 HV.out).mono ?_⟩
  rintro e w1 ⟨rfl, hB⟩
  obtain ⟨hz1, hs1, hsz, hBw⟩ := after2 hB
  have c1 := cell_of_block hs1 0
  have z0 := cell_of_block hz1 0
  have z1 := cell_of_block hz1 1
  simp at c1 z0 z1
  have s1 : w.heap.size < w1.heap.size := by omega
  have s2 : w.heap.size + 1 < w1.heap.size := by omega
  gi_wp2_with (refine ⟨trivial, ?_⟩; first | (gi_at_call 30; refine (callsIn_wide.2 (isDay_any _ _)).mono ?_; rintro e w' ⟨rfl, rfl⟩) | (gi_at_call 26; refine (callsIn_wide.2 (stretches_any _ _ _ rfl _)).mono ?_; rintro e w' ⟨rfl, rfl⟩))
  have b1 := blk2 w1 (.cells #[.int .i64 0] 3) (.cells #[.int .i64 off, .slice sa len cap] 24)
  have hBW := hBw.trans ((below2 w1 (.cells #[.int .i64 0] 3) (.cells #[.int .i64 off, .slice sa len cap] 24)).mono hBw.size)
  refine wp_range_iter (m := 3) TS (gf := 35) (lb := #[.pointer (some ⟨w1.heap.size + 1, 0, none⟩)]) rfl (enters_of Try.func35 (by kernel_rfl) rfl)
    (stretches_iter hm (HS.out.low (low_of_below hBW) (Nat.le_refl _)) hBW.size b1.2) (Below.refl _ _) hBW.size (fun _ => rfl)
    (fun pre W => W.heap[w.heap.size + 1]? = some (.cells #[.int .i64 s] 3) ∧ W.heap[w1.heap.size]? = some (.cells #[.int .i64 (sumLen s pre)] 3) ∧ Below w.heap.size w W)
    (fun _ _ _ => False)
    (fun _ A B h k => ⟨k.cells h.1 rfl, k.cells h.2.1 rfl, k.below h.2.2 hBW.size (Nat.le_refl _)⟩)
    (fun _ _ A B h k => h)
    ⟨some_of_alloc _ (some_of_alloc _ hs1), b1.1, hBW⟩
    (fun pre x a' W => ∃ X, a' = { tmps := #[.agg #[.int .i64 off, .slice sa len cap], .int .i64 s, .pointer (some ⟨w.heap.size, 0, none⟩), .pointer (some ⟨w.heap.size + 1, 0, none⟩), .int .i64 0, .pointer (some ⟨w1.heap.size, 0, none⟩), .pointer (some ⟨X, 0, none⟩), undef, undef, .agg #[.int .i64 off, .slice sa len cap], .bool true, .bool false, .bool false, .int .i64 s, .bool true, .bool false, .bool false, .agg #[.int .i64 off, .slice sa len cap], .func (.func 35) #[] #[.pointer (some ⟨w1.heap.size + 1, 0, none⟩)], .agg #[.int .i64 x.1, .int .i64 x.2.1, .int .i64 x.2.2], undef, undef, undef, undef, undef, undef, undef, undef, undef, undef, undef, undef, undef, undef, undef, undef, undef, undef, undef, undef, undef, undef, undef, undef], defers := [] } ∧ W.heap[X]? = some (.cells #[.int .i64 x.1, .int .i64 x.2.1, .int .i64 x.2.2] 57) ∧
      W.heap[w.heap.size + 1]? = some (.cells #[.int .i64 s] 3) ∧ W.heap[w1.heap.size]? = some (.cells #[.int .i64 (sumLen s pre)] 3) ∧ Below w.heap.size w W)
    (fun pre x a' A B h k => by obtain ⟨X, h1, h2, h3, h4, h6⟩ := h; exact ⟨X, h1, k.cells h2 rfl, k.cells h3 rfl, k.cells h4 rfl, k.below h6 hBW.size (Nat.le_refl _)⟩)
    ?assign ?body ?done ?stop
  case assign =>
    rintro l pre x W hpre ⟨hs, ho, hBx⟩
    dsimp only [encS]
    gi_wp2
    exact ⟨(BodyKeeps.refl _ _ _ _).alloc hBx.size _, W.heap.size, rfl, heap_at_new _ _, some_of_alloc _ hs, some_of_alloc _ ho, hBx.alloc hBx.size _⟩
  case body =>
    rintro l pre x a' W hpre ⟨X, rfl, hX, hs, ho, hBx⟩
    have x0 := cell_of_block hX 0
    have x1 := cell_of_block hX 1
    have x2 := cell_of_block hX 2
    have c2 := cell_of_block hs 0
    have c3 := cell_of_block ho 0
    have f3 := frozen_of_block ho 0
    simp at x0 x1 x2 c2 c3
    have hxb := HX.out x (hpre.subset (by simp))
    have hsl := sumLen_bound (day := s) (l := pre) (fun y hy => HX.out y (hpre.subset (by simp [hy])))
    have hpl : (pre.length : Int) ≤ 41 := by
      have h3 := hpre.length_le
      have h4 := strs_length ys 0 off
      have h5 := HN.out
      simp at h3; omega
    gi_wp2
    all_goals exact ⟨(BodyKeeps.refl _ _ _ _).setCell _ hBw.size (.inr (known_cells ho rfl)), set_other hs (by omega) _, (set1 ho _).trans (cell_eq (by rw [sumLen_append]; simp only [sumLen, lenOf]; omega)), hBx.setCell (p := ⟨w1.heap.size, 0, none⟩) hBw.size _⟩
  case done =>
    rintro D W hD ⟨hs, ho, hBx⟩ hK
    have c2 := cell_of_block hs 0
    have c3 := cell_of_block ho 0
    simp at c2 c3
    gi_wp2
    refine ⟨by simp, .inl ⟨_, _, rfl, run_takeDeferred hK, ?_⟩⟩
    exact ⟨_, results_tmp rfl _ _ _, rfl, below_put hBx (by simp at hD; have := hBw.size; omega) _⟩
  case stop =>
    rintro D c pre W hD hpre h
    exact h.elim

theorem length_any (off : Int) (sa : Option Addr) (b o len cap : Nat) (ys : Sh) (s : Int) (w : World) (hm : len ≤ 1000000000) (hS : ShAt w.heap.size w sa b o len ys) :
    Calls Try.prog 16 #[.agg #[.int .i64 off, .slice sa len cap], .int .i64 s] w fun e w' => e = .returned (.int .i64 (length' off ys s)) ∧ Below w.heap.size w w' := by
  rcases Bool.eq_false_or_eq_true (valid off ys && isDy s) with h | h
  · simp at h
    exact callsIn_wide.1 (length_good off sa b o len cap ys s w hm hS h.1 h.2)
  · exact length_bad off sa b o len cap ys s w hm hS h
end Go.Proofs.Ytmnilbaefimalaa
