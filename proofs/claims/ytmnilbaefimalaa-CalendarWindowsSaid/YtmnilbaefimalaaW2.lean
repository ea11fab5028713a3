/- The contract of calendar.Local. Condition: the zone's shifts lie in memory that was there before the call, fewer than 10^9 of them. -/
import Derived.Test.YtmnilbaefimalaaW1
namespace Go.Proofs.Ytmnilbaefimalaa
open Go Go.RowKit Go.Shelf
attribute [local go_sem] Oper.semAt_some

theorem stretches_iter {n₀ Bz b o len cap : Nat} {sa : Option Addr} {off : Int} {ys : Sh} {w : World} (hm : len ≤ 1000000000) (hS : ShAt n₀ w sa b o len ys) (hn : n₀ ≤ w.heap.size)
    (hz : w.heap[Bz]? = some (.cells #[.int .i64 off, .slice sa len cap] 24)) : Iter Try.prog 35 #[.pointer (some ⟨Bz, 0, none⟩)] encS TS n₀ (strs 0 off ys) w := by
  intro l m J Jx W hW hJ hJx hY h0
  have hlt : Bz < w.heap.size := (Array.getElem?_eq_some_iff.1 hz).1
  have hz' : W.heap[Bz]? = some (.cells #[.int .i64 off, .slice sa len cap] 24) := (hW.block Bz hlt).trans hz
  exact stretches1_in l m n₀ Bz b o len cap sa off ys J Jx W hm (hS.low (low_of_below hW) hn) (Nat.le_trans hn hW.size) hJ hJx hY (cell_of_block hz' 0) (cell_of_block hz' 1) (by have := hW.size; omega) h0

theorem blk2 (w : World) (o1 o2 : Obj) : ((w.alloc o1).alloc o2).heap[w.heap.size]? = some o1 ∧ ((w.alloc o1).alloc o2).heap[w.heap.size + 1]? = some o2 :=
  ⟨some_of_alloc _ (heap_at_new w o1), by have := heap_at_new (w.alloc o1) o2; rwa [World.size_alloc] at this⟩
theorem size2 (w : World) (o1 o2 : Obj) : ((w.alloc o1).alloc o2).heap.size = w.heap.size + 2 := by simp
theorem below2 (w : World) (o1 o2 : Obj) : Below w.heap.size w ((w.alloc o1).alloc o2) := ((Below.refl _ w).alloc (Nat.le_refl _) _).alloc (by simp) _

/-- What holds of the two boxes behind the call of Valid. -/
theorem after2 {w w1 : World} {o1 o2 : Obj} (hB : Below ((w.alloc o1).alloc o2).heap.size ((w.alloc o1).alloc o2) w1) :
    w1.heap[w.heap.size]? = some o1 ∧ w1.heap[w.heap.size + 1]? = some o2 ∧ w.heap.size + 2 ≤ w1.heap.size ∧ Below w.heap.size w w1 := by
  have h := blk2 w o1 o2
  refine ⟨(hB.block _ (by simp; omega)).trans h.1, (hB.block _ (by simp)).trans h.2, by have := hB.size; rw [size2] at this; exact this, (below2 w o1 o2).trans (hB.mono (by simp; omega))⟩

set_option maxHeartbeats 400000 in
theorem local_bad (off : Int) (sa : Option Addr) (b o len cap : Nat) (ys : Sh) (s : Int) (w : World) (hm : len ≤ 1000000000) (hS : ShAt w.heap.size w sa b o len ys) (hbad : (valid off ys && inSec s) = false) :
    Calls Try.prog 11 #[.agg #[.int .i64 off, .slice sa len cap], .int .i64 s] w fun e w' => e = .returned (.tuple #[.int .i64 (local' off ys s).1, .int .i64 (local' off ys s).2]) ∧ Below w.heap.size w w' := by
  have HL : local' off ys s = (0, 0) := by unfold local'; rw [hbad]; rfl
  rw [HL]
  clear HL
  have hv := valid_any off sa b o len cap ys ((w.alloc (.cells #[.int .i64 off, .slice sa len cap] 24)).alloc (.cells #[.int .i64 s] 3)) hm ((hS.low (((Low.refl _ w).alloc (Nat.le_refl _) _).alloc (Nat.le_refl _) _) (Nat.le_refl _)).up (by simp; omega))
  have HV := Lib.hid hv; clear hv
  rcases Bool.eq_false_or_eq_true (valid off ys) with h1 | h1
  · rcases Bool.eq_false_or_eq_true (inSec s) with h2 | h2
    · simp [h1, h2] at hbad
    clear hbad
    go_enter Try.func11, Try.ntmps11
    go_wp2_with fail
    refine HV.out.mono ?_
    rintro e w1 ⟨rfl, hB⟩
    obtain ⟨_, hs1, _, hBw⟩ := after2 hB
    have c1 := cell_of_block hs1 0
    simp at c1
    go_wp2_with (first | (go_at_call 25; refine (isSecond_any _ _).mono ?_; rintro e w' ⟨rfl, rfl⟩))
    go_ret2
    exact ⟨rfl, hBw⟩
  · clear hbad
    go_enter Try.func11, Try.ntmps11
    go_wp2_with fail
    refine HV.out.mono ?_
    rintro e w1 ⟨rfl, hB⟩
    obtain ⟨_, _, _, hBw⟩ := after2 hB
    go_wp2
    go_ret2
    exact ⟨rfl, hBw⟩

set_option maxRecDepth 100000 in
set_option maxHeartbeats 1000000 in
theorem local_good (off : Int) (sa : Option Addr) (b o len cap : Nat) (ys : Sh) (s : Int) (w : World) (hm : len ≤ 1000000000) (hS : ShAt w.heap.size w sa b o len ys) (h1 : valid off ys = true) (h2 : inSec s = true) :
    CallsIn Fence.wide 5 Try.prog 11 #[.agg #[.int .i64 off, .slice sa len cap], .int .i64 s] w fun e w' => e = .returned (.tuple #[.int .i64 (local' off ys s).1, .int .i64 (local' off ys s).2]) ∧ Below w.heap.size w w' := by
  have HL : local' off ys s = ((s + pickOff s (strs 0 off ys)) / 86400, (s + pickOff s (strs 0 off ys)) % 86400) := by unfold local'; rw [h1, h2]; rfl
  rw [HL]
  clear HL
  have hv := valid_any off sa b o len cap ys ((w.alloc (.cells #[.int .i64 off, .slice sa len cap] 24)).alloc (.cells #[.int .i64 s] 3)) hm ((hS.low (((Low.refl _ w).alloc (Nat.le_refl _) _).alloc (Nat.le_refl _) _) (Nat.le_refl _)).up (by simp; omega))
  have HV := Lib.hid hv; clear hv
  have hpb := pickOff_bound (s := s) (fun x hx => (strs_ok h1 x hx).2.2.2.2)
  have hsb : 0 ≤ s ∧ s ≤ 10000000000 := by simpa [inSec] using h2
  have HS := Lib.hid hS; clear hS
  refine callsIn_of_wp_marks Try.func11 rfl trivial ?_ rfl
  simp only [Try.ntmps11, List.size_toArray, List.length_cons, List.length_nil, Nat.reduceAdd, Nat.reduceSub, Array.replicate_succ, Array.replicate_zero, List.push_toArray, List.append_toArray, List.nil_append, List.cons_append]
  gi_wp2_with fail
  refine ⟨trivial, (callsIn_wide.2 HV.out).mono ?_⟩
  rintro e w1 ⟨rfl, hB⟩
  obtain ⟨hz1, hs1, hsz, hBw⟩ := after2 hB
  have c1 := cell_of_block hs1 0
  have z0 := cell_of_block hz1 0
  have z1 := cell_of_block hz1 1
  simp at c1 z0 z1
  have s1 : w.heap.size < w1.heap.size := by omega
  have s2 : w.heap.size + 1 < w1.heap.size := by omega
  gi_wp2_with (refine ⟨trivial, ?_⟩; first | (gi_at_call 25; refine (callsIn_wide.2 (isSecond_any _ _)).mono ?_; rintro e w' ⟨rfl, rfl⟩) | (gi_at_call 26; refine (callsIn_wide.2 (stretches_any _ _ _ rfl _)).mono ?_; rintro e w' ⟨rfl, rfl⟩))
  have b1 := blk2 w1 (.cells #[.int .i64 0] 3) (.cells #[.int .i64 off, .slice sa len cap] 24)
  have hBW := hBw.trans ((below2 w1 (.cells #[.int .i64 0] 3) (.cells #[.int .i64 off, .slice sa len cap] 24)).mono hBw.size)
  refine wp_range_iter (m := 3) TS (gf := 35) (lb := #[.pointer (some ⟨w1.heap.size + 1, 0, none⟩)]) rfl (enters_of Try.func35 (by kernel_rfl) rfl)
    (stretches_iter hm (HS.out.low (low_of_below hBW) (Nat.le_refl _)) hBW.size b1.2) (Below.refl _ _) hBW.size (fun _ => rfl)
    (fun pre W => W.heap[w.heap.size + 1]? = some (.cells #[.int .i64 s] 3) ∧ W.heap[w1.heap.size]? = some (.cells #[.int .i64 0] 3) ∧ NoneYet s pre ∧ Below w.heap.size w W)
    (fun c _ W => c = .exit 0 ∧ W.heap[w.heap.size + 1]? = some (.cells #[.int .i64 s] 3) ∧ W.heap[w1.heap.size]? = some (.cells #[.int .i64 (pickOff s (strs 0 off ys))] 3) ∧ Below w.heap.size w W)
    (fun _ A B h k => ⟨k.cells h.1 rfl, k.cells h.2.1 rfl, h.2.2.1, k.below h.2.2.2 hBW.size (Nat.le_refl _)⟩)
    (fun _ _ A B h k => ⟨h.1, k.cells h.2.1 rfl, k.cells h.2.2.1 rfl, k.below h.2.2.2 hBW.size (Nat.le_refl _)⟩)
    ⟨some_of_alloc _ (some_of_alloc _ hs1), b1.1, noneYet_nil s, hBW⟩
    (fun pre x a' W => ∃ X, a' = { tmps := #[.agg #[.int .i64 off, .slice sa len cap], .int .i64 s, .pointer (some ⟨w.heap.size, 0, none⟩), .pointer (some ⟨w.heap.size + 1, 0, none⟩), .int .i64 0, .int .i64 0, .pointer (some ⟨w1.heap.size, 0, none⟩), .pointer (some ⟨X, 0, none⟩), .agg #[.int .i64 off, .slice sa len cap], .bool true, .bool false, .bool false, .int .i64 s, .bool true, .bool false, .bool false, .agg #[.int .i64 off, .slice sa len cap], .func (.func 35) #[] #[.pointer (some ⟨w1.heap.size + 1, 0, none⟩)], .agg #[.int .i64 x.1, .int .i64 x.2.1, .int .i64 x.2.2], undef, undef, undef, undef, undef, undef, undef, undef, undef, undef, undef, undef], defers := [] } ∧ W.heap[X]? = some (.cells #[.int .i64 x.1, .int .i64 x.2.1, .int .i64 x.2.2] 57) ∧
      W.heap[w.heap.size + 1]? = some (.cells #[.int .i64 s] 3) ∧ W.heap[w1.heap.size]? = some (.cells #[.int .i64 0] 3) ∧ NoneYet s pre ∧ Below w.heap.size w W)
    (fun pre x a' A B h k => by obtain ⟨X, h1, h2, h3, h4, h5, h6⟩ := h; exact ⟨X, h1, k.cells h2 rfl, k.cells h3 rfl, k.cells h4 rfl, h5, k.below h6 hBW.size (Nat.le_refl _)⟩)
    ?assign ?body ?done ?stop
  case assign =>
    rintro l pre x W hpre ⟨hs, ho, hp, hBx⟩
    dsimp only [encS]
    gi_wp2
    exact ⟨(BodyKeeps.refl _ _ _ _).alloc hBx.size _, W.heap.size, rfl, heap_at_new _ _, some_of_alloc _ hs, some_of_alloc _ ho, hp, hBx.alloc hBx.size _⟩
  case body =>
    rintro l pre x a' W hpre ⟨X, rfl, hX, hs, ho, hp, hBx⟩
    have x1 := cell_of_block hX 1
    have x2 := cell_of_block hX 2
    have c2 := cell_of_block hs 0
    have c3 := cell_of_block ho 0
    have f3 := frozen_of_block ho 0
    simp at x1 x2 c2 c3
    gi_wp2
    · have hlt : s < x.2.1 := by assumption
      exact ⟨(BodyKeeps.refl _ _ _ _).setCell _ hBw.size (.inr (known_cells ho rfl)), rfl, set_other hs (by omega) _, by rw [pickOff_hit hp hpre hlt]; exact set1 ho _, hBx.setCell (p := ⟨w1.heap.size, 0, none⟩) hBw.size _⟩
    · have hge : x.2.1 ≤ s := by assumption
      exact ⟨BodyKeeps.refl _ _ _ _, hs, ho, noneYet_snoc hp hge, hBx⟩
  case done =>
    rintro D W hD ⟨hs, ho, hp, hBx⟩ hK
    have c2 := cell_of_block hs 0
    have c3 := cell_of_block ho 0
    simp at c2 c3
    have HP := Lib.hid (pickOff_none hp)
    gi_wp2_with (refine ⟨trivial, ?_⟩; gi_at_call 27; refine (callsIn_wide.2 (divide_any _ (by omega) (by omega) _)).mono ?_; rintro e w' ⟨rfl, rfl⟩)
    refine ⟨by simp, .inl ⟨_, _, rfl, run_takeDeferred hK, ?_⟩⟩
    refine ⟨_, results_tmp2 rfl _ _ _, ?_, below_put hBx (by simp at hD; have := hBw.size; omega) _⟩
    rw [HP.out, Int.add_zero]
    rfl
  case stop =>
    rintro D c pre W hD hpre ⟨rfl, hs, ho, hBx⟩ hK
    have c2 := cell_of_block hs 0
    have c3 := cell_of_block ho 0
    simp at c2 c3
    gi_wp2_with (refine ⟨trivial, ?_⟩; gi_at_call 27; refine (callsIn_wide.2 (divide_any _ (by omega) (by omega) _)).mono ?_; rintro e w' ⟨rfl, rfl⟩)
    refine ⟨by simp, .inl ⟨_, _, rfl, run_takeDeferred hK, ?_⟩⟩
    exact ⟨_, results_tmp2 rfl _ _ _, rfl, below_put hBx (by simp at hD; have := hBw.size; omega) _⟩

theorem local_any (off : Int) (sa : Option Addr) (b o len cap : Nat) (ys : Sh) (s : Int) (w : World) (hm : len ≤ 1000000000) (hS : ShAt w.heap.size w sa b o len ys) :
    Calls Try.prog 11 #[.agg #[.int .i64 off, .slice sa len cap], .int .i64 s] w fun e w' => e = .returned (.tuple #[.int .i64 (local' off ys s).1, .int .i64 (local' off ys s).2]) ∧ Below w.heap.size w w' := by
  rcases Bool.eq_false_or_eq_true (valid off ys && inSec s) with h | h
  · simp at h
    exact callsIn_wide.1 (local_good off sa b o len cap ys s w hm hS h.1 h.2)
  · exact local_bad off sa b o len cap ys s w hm hS h
end Go.Proofs.Ytmnilbaefimalaa
