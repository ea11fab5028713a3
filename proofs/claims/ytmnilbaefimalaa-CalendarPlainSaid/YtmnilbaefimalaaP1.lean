/- CalendarPlain: the walk. No condition. -/
import Derived.Test.YtmnilbaefimalaaL3
namespace Go.Proofs.Ytmnilbaefimalaa
open Go Go.RowKit Go.Shelf Go.Joins

theorem mkZone_nil (o : Int) : mkZone o [] = [] := rfl
theorem own_one {W : World} {n : Nat} {v : Value} {zs : List Int} {x : Int} (h : OwnInts W n v zs) (hz : zs = [x]) : ∃ g cap cur, v = .slice (some ⟨g, 0, none⟩) 1 cap ∧ W.heap[g]? = some (.cells cur 3) ∧ cur[0]? = some (.int .i64 x) := by
  subst hz
  obtain ⟨g, cap, cur, h1, _, h2, h3⟩ := row_of_own h (by simp)
  exact ⟨g, cap, cur, h1, h2, h3 0 _ rfl⟩

theorem plain_facts {off x : Int} (ho : okOff off = true) (h0 : 86400 ≤ x) (h1 : x ≤ 1000086400) :
    local' off [] (x + 86400) = ((local' off [] x).1 + 1, (local' off [] x).2) ∧ at' off [] (local' off [] x).1 (local' off [] x).2 = [x] ∧ length' off [] (local' off [] x).1 = 86400 := by
  have hb := okOff_iff.1 ho
  have hv : valid off [] = true := by simp [valid, validFrom, ho]
  have i1 : inSec x = true := by simp [inSec]; omega
  have i2 : inSec (x + 86400) = true := by simp [inSec]; omega
  have hs : strs 0 off [] = [(0, 10000000001, off)] := rfl
  have e1 : local' off [] x = ((x + off) / 86400, (x + off) % 86400) := by
    unfold local'; rw [hv, i1, hs]; simp [pickOff, show x < 10000000001 by omega]
  have e2 : local' off [] (x + 86400) = ((x + 86400 + off) / 86400, (x + 86400 + off) % 86400) := by
    unfold local'; rw [hv, i2, hs]; simp [pickOff, show x + 86400 < 10000000001 by omega]
  have d1 : isDy ((x + off) / 86400) = true := by simp [isDy]; omega
  have d2 : inDy ((x + off) % 86400) = true := by simp [inDy]; omega
  rw [e1, e2]
  refine ⟨by simp only [Prod.mk.injEq]; omega, ?_, ?_⟩
  · unfold at'; rw [hv, d1, d2, hs]
    simp only [Bool.and_true, if_true, atAll, atOf, List.append_nil]
    rw [if_pos (by omega)]
    congr 1; omega
  · unfold length'; rw [hv, d1, hs]
    simp only [Bool.and_true, if_true, sumLen, lenOf]
    omega

set_option maxRecDepth 100000 in
set_option maxHeartbeats 2000000 in
theorem plain_walk (o s : Int) (ho : -9223372036854775808 ≤ o ∧ o ≤ 9223372036854775807) (hs : -9223372036854775808 ≤ s ∧ s ≤ 9223372036854775807) (w : World) :
    Calls Try.prog 7 #[.int .i64 o, .int .i64 s] w fun e w' => e = .returned (.bool true) ∧ Below w.heap.size w w' := by
  have hp := pk_bound s 1000000000 (by omega)
  obtain ⟨x, hx⟩ : ∃ x, 86400 + pk s 1000000000 = x := ⟨_, rfl⟩
  obtain ⟨F1, F2, F3⟩ := plain_facts (off := mkOff o) (x := x) (mkOff_ok o) (by omega) (by omega)
  have hd := local_ok (off := mkOff o) (ys := []) x
  generalize hl : local' (mkOff o) [] x = l at F1 F2 F3 hd
  obtain ⟨d, k⟩ := l
  dsimp only at F1 F2 F3 hd
  have G1 := Lib.hid F1; clear F1
  have G2 := Lib.hid F2; clear F2
  have G3 := Lib.hid F3; clear F3
  have G0 := Lib.hid hl; clear hl
  go_enter Try.func7, Try.ntmps7
  go_wp2_with fail
  refine (sane_any w).mono ?_
  rintro e w1 ⟨rfl, hB1, hz1⟩
  go_wp2_with fail
  refine (made_any o ho none 0 0 0 0 [] w1 (by omega) (intsAt_nil (by omega))).mono ?_
  rintro e w2 ⟨sa, b, cap, he, hM, hB2⟩
  rw [mkZone_nil] at he hM
  subst he
  have hM := hM.alloc (.cells #[.int .i64 (mkOff o), .slice sa 0 cap] 24)
  have hB : Below w.heap.size w (w2.alloc (.cells #[.int .i64 (mkOff o), .slice sa 0 cap] 24)) := (below_step hB1 hB2 (Nat.le_refl _)).alloc (by have := hB1.size; have := hB2.size; omega) _
  have hz := heap_at_new w2 (.cells #[.int .i64 (mkOff o), .slice sa 0 cap] 24)
  clear hB1 hB2
  go_wp2_with fail
  refine (pick_any s 1000000000 hs (by omega) _).mono ?_
  rintro e w' ⟨rfl, rfl⟩
  go_wp2_with fail
  refine (made_local hM x).mono ?_
  rintro e w3 ⟨rfl, hM3, hB3⟩
  rw [G0.out]
  have hz3 := keep hB3 hz
  have c0 := cell_of_block hz3 0
  have c1 := cell_of_block hz3 1
  simp at c0 c1
  go_wp2_with fail
  refine (made_local hM3 (x + 86400)).mono ?_
  rintro e w4 ⟨rfl, hM4, hB4⟩
  rw [G1.out]
  have hz4 := keep hB4 hz3
  have c0 := cell_of_block hz4 0
  have c1 := cell_of_block hz4 1
  simp at c0 c1
  go_wp2_with fail
  refine (made_at hM4 d k).mono ?_
  rintro e w5 ⟨v, rfl, hv, hM5, hB5⟩
  obtain ⟨g, vc, cur, rfl, hg, hcur⟩ := own_one hv G2.out
  have hz5 := keep hB5 hz4
  have c0 := cell_of_block hz5 0
  have c1 := cell_of_block hz5 1
  simp at c0 c1
  go_wp2_with fail
  refine (made_length hM5 d).mono ?_
  rintro e w6 ⟨rfl, hM6, hB6⟩
  rw [G3.out]
  have hg6 := keep hB6 hg
  have l0 := (cell_of_block hg6 0).trans hcur
  go_wp2_with fail
  go_ret
  exact ⟨rfl, below_step (below_step (below_step (below_step hB hB3 (by have := hB.size; omega)) hB4 (by have := hB.size; have := hB3.size; omega)) hB5 (by omega)) hB6 (by omega)⟩
end Go.Proofs.Ytmnilbaefimalaa
