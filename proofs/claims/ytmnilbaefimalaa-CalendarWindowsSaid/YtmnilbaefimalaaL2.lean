/- The contract of the fixed calls that every statement of the calendar makes: they answer true. No condition. -/
import Derived.Test.YtmnilbaefimalaaL1
namespace Go.Proofs.Ytmnilbaefimalaa
open Go Go.RowKit Go.Shelf Go.Joins

theorem keep {W W' : World} (hB : Below W.heap.size W W') {X : Nat} {o : Obj} (h : W.heap[X]? = some o) : W'.heap[X]? = some o :=
  (hB.block X (Array.getElem?_eq_some_iff.1 h).1).trans h
theorem below_step {n : Nat} {w W W' : World} (h : Below n w W) (hB : Below W.heap.size W W') (hn : n ≤ w.heap.size) : Below n w W' := h.trans (hB.mono (by have := h.size; omega))
theorem ShAt.step {n : Nat} {W W' : World} {sa : Option Addr} {b o len : Nat} {ys : Sh} (h : ShAt n W sa b o len ys) (hn : n ≤ W.heap.size) (hB : Below W.heap.size W W') : ShAt W'.heap.size W' sa b o len ys :=
  (h.low (low_of_below hB) hn).up (by have := hB.size; omega)

theorem row_of_own {W : World} {n e size k : Nat} {v : Value} {xs : List Value} (h : W.ownsRow n e size v k xs) (hk : 0 < k) : ∃ g cap cur, v = .slice (some ⟨g, 0, none⟩) k cap ∧ n ≤ g ∧ W.heap[g]? = some (.cells cur e) ∧ ∀ (j : Nat) (u : Value), xs[j]? = some u → cur[j]? = some u := by
  rcases h.2 with ⟨_, h2⟩ | ⟨g, cap, cur, h3, h4, h5, _, _, h8, h9⟩
  · omega
  · refine ⟨g, cap, cur, h3, h4, h5, fun j u hu => ?_⟩
    rw [← h9, List.getElem?_take] at hu
    split at hu
    · simpa using hu
    · cases hu

def sys : Sh := [(90000, 7200), (200000, 3600)]
theorem s1 : local' 3600 sys 90000 = (1, 10800) := by decide
theorem s2 : local' 3600 sys 89999 = (1, 7199) := by decide
theorem s3 : at' 3600 sys 2 32000 = [197600, 201200] := by decide
theorem s4 : spans' 3600 sys 80000 95000 0 3600 = [(82800, 86400)] := by decide
theorem s5 : at' 3600 sys 1 7200 = [] := by decide
theorem s6 : length' 3600 sys 1 = 82800 := by decide
theorem s7 : length' 3600 sys 2 = 90000 := by decide
theorem s8 : within' 3600 sys 90000 79200 18000 = true := by decide
theorem s9 : within' 3600 sys 90000 10801 11000 = false := by decide
theorem s10 : valid 3600 sys = true := by decide
theorem s11 : valid 50401 [] = false := by decide

/-- The fixed zone, as it lies in memory during the fixed calls. -/
structure SaneSt (w W : World) : Prop where
  c0 : W.cell? ⟨w.heap.size + 1, 0, none⟩ = some (.int .i64 3600)
  c1 : W.cell? ⟨w.heap.size + 1, 1, none⟩ = some (.slice (some ⟨w.heap.size, 0, none⟩) 2 2)
  sh : ShAt W.heap.size W (some ⟨w.heap.size, 0, none⟩) w.heap.size 0 2 sys
  size : w.heap.size + 1 < W.heap.size
  below : Below w.heap.size w W
theorem SaneSt.step {w W W' : World} (h : SaneSt w W) (hB : Below W.heap.size W W') : SaneSt w W' :=
  ⟨(hB.cell (p := ⟨w.heap.size + 1, 0, none⟩) h.size).trans h.c0, (hB.cell (p := ⟨w.heap.size + 1, 1, none⟩) h.size).trans h.c1, h.sh.step (Nat.le_refl _) hB, by have := hB.size; have := h.size; omega, below_step h.below hB (Nat.le_refl _)⟩
theorem sane_start (w : World) : SaneSt w ((w.alloc (.cells #[.int .i64 90000, .int .i64 7200, .int .i64 200000, .int .i64 3600] 43)).alloc (.cells #[.int .i64 3600, .slice (some ⟨w.heap.size, 0, none⟩) 2 2] 24)) := by
  have h := blk2 w (.cells #[.int .i64 90000, .int .i64 7200, .int .i64 200000, .int .i64 3600] 43) (.cells #[.int .i64 3600, .slice (some ⟨w.heap.size, 0, none⟩) 2 2] 24)
  refine ⟨cell_of_block h.2 0, cell_of_block h.2 1, ⟨rfl, .inr rfl, by simp; omega, ?_, ?_⟩, by simp, below2 _ _ _⟩
  · intro j hj
    match j, hj with
    | 0, _ => exact cell_of_block h.1 0
    | 1, _ => exact cell_of_block h.1 2
  · intro j hj
    match j, hj with
    | 0, _ => exact cell_of_block h.1 1
    | 1, _ => exact cell_of_block h.1 3

variable {w W : World}
theorem sane_local (h : SaneSt w W) (s a b : Int) (he : local' 3600 sys s = (a, b)) : Calls Try.prog 11 #[.agg #[.int .i64 3600, .slice (some ⟨w.heap.size, 0, none⟩) 2 2], .int .i64 s] W fun e W' => e = .returned (.tuple #[.int .i64 a, .int .i64 b]) ∧ SaneSt w W' ∧ Below W.heap.size W W' :=
  (local_any 3600 _ _ 0 2 2 sys s W (by omega) h.sh).mono fun e W' ⟨h1, h2⟩ => ⟨by rw [h1, he], h.step h2, h2⟩
theorem sane_length (h : SaneSt w W) (s a : Int) (he : length' 3600 sys s = a) : Calls Try.prog 16 #[.agg #[.int .i64 3600, .slice (some ⟨w.heap.size, 0, none⟩) 2 2], .int .i64 s] W fun e W' => e = .returned (.int .i64 a) ∧ SaneSt w W' ∧ Below W.heap.size W W' :=
  (length_any 3600 _ _ 0 2 2 sys s W (by omega) h.sh).mono fun e W' ⟨h1, h2⟩ => ⟨by rw [h1, he], h.step h2, h2⟩
theorem sane_within (h : SaneSt w W) (s a b : Int) (r : Bool) (he : within' 3600 sys s a b = r) : Calls Try.prog 21 #[.agg #[.int .i64 3600, .slice (some ⟨w.heap.size, 0, none⟩) 2 2], .int .i64 s, .int .i64 a, .int .i64 b] W fun e W' => e = .returned (.bool r) ∧ SaneSt w W' ∧ Below W.heap.size W W' :=
  (within_any 3600 _ _ 0 2 2 sys s a b W (by omega) h.sh).mono fun e W' ⟨h1, h2⟩ => ⟨by rw [h1, he], h.step h2, h2⟩
theorem sane_at (h : SaneSt w W) (d s : Int) (l : List Int) (he : at' 3600 sys d s = l) : Calls Try.prog 19 #[.agg #[.int .i64 3600, .slice (some ⟨w.heap.size, 0, none⟩) 2 2], .int .i64 d, .int .i64 s] W fun e W' => ∃ v, e = .returned v ∧ OwnInts W' W.heap.size v l ∧ SaneSt w W' ∧ Below W.heap.size W W' :=
  (at_any 3600 _ _ 0 2 2 sys d s W (by omega) h.sh).mono fun e W' ⟨⟨v, h1, h3⟩, h2⟩ => ⟨v, h1, by rw [← he]; exact h3, h.step h2, h2⟩
theorem sane_valid (h : SaneSt w W) : Calls Try.prog 13 #[.agg #[.int .i64 3600, .slice (some ⟨w.heap.size, 0, none⟩) 2 2]] W fun e W' => e = .returned (.bool true) ∧ SaneSt w W' ∧ Below W.heap.size W W' :=
  (valid_any 3600 _ _ 0 2 2 sys W (by omega) h.sh).mono fun e W' ⟨h1, h2⟩ => ⟨by rw [h1, s10], h.step h2, h2⟩
theorem sane_spans (h : SaneSt w W) : Calls Try.prog 24 #[.agg #[.int .i64 3600, .slice (some ⟨w.heap.size, 0, none⟩) 2 2], .agg #[.int .i64 80000, .int .i64 95000], .int .i64 0, .int .i64 3600] W fun e W' => ∃ v, e = .returned v ∧ OwnSpans W' W.heap.size v [(82800, 86400)] ∧ SaneSt w W' ∧ Below W.heap.size W W' :=
  (spans_any 3600 _ _ 0 2 2 sys 80000 95000 0 3600 W (by omega) h.sh (by omega) (by omega) s10 (by decide) (by decide)).mono fun e W' ⟨⟨v, h1, h3⟩, h2⟩ => ⟨v, h1, by rw [← s4]; exact h3, h.step h2, h2⟩
theorem sane_invalid (h : SaneSt w W) : Calls Try.prog 13 #[.agg #[.int .i64 50401, .slice none 0 0]] W fun e W' => e = .returned (.bool false) ∧ SaneSt w W' ∧ Below W.heap.size W W' :=
  (valid_any 50401 none w.heap.size 0 0 0 [] W (by omega) ⟨rfl, .inl rfl, h.sh.lt, fun j hj => by omega, fun j hj => by omega⟩).mono fun e W' ⟨h1, h2⟩ => ⟨by rw [h1, s11], h.step h2, h2⟩

set_option maxRecDepth 100000 in
set_option maxHeartbeats 2000000 in
theorem sane_any (w : World) : Calls Try.prog 9 #[] w fun e w' => e = .returned (.bool true) ∧ Below w.heap.size w w' ∧ w.heap.size < w'.heap.size := by
  have h0 := sane_start w
  go_enter Try.func9, Try.ntmps9
  go_wp2_with fail
  refine (sane_local h0 90000 1 10800 s1).mono ?_
  rintro e W1 ⟨rfl, h1, _⟩
  have a1 := h1.c0
  have b1 := h1.c1
  go_wp2_with fail
  refine (sane_local h1 89999 1 7199 s2).mono ?_
  rintro e W2 ⟨rfl, h2, _⟩
  have a2 := h2.c0
  have b2 := h2.c1
  go_wp2_with fail
  refine (sane_at h2 2 32000 _ s3).mono ?_
  rintro e W3 ⟨v, rfl, hl, h3, _⟩
  obtain ⟨g, cap, cur, rfl, _, hg, hcur⟩ := row_of_own hl (by decide)
  have a3 := h3.c0
  have b3 := h3.c1
  go_wp2_with fail
  refine (sane_spans h3).mono ?_
  rintro e W4 ⟨v, rfl, hm, h4, hB4⟩
  obtain ⟨g', cap', cur', rfl, _, hg', hcur'⟩ := row_of_own hm (by decide)
  have a4 := h4.c0
  have b4 := h4.c1
  have hg4 := keep hB4 hg
  go_wp2_with fail
  refine (sane_at h4 1 7200 _ s5).mono ?_
  rintro e W5 ⟨v, rfl, hn, h5, hB5⟩
  obtain ⟨va, vc, rfl⟩ := own_shape hn
  have a5 := h5.c0
  have b5 := h5.c1
  have hg5 := keep hB5 hg4
  have hg5' := keep hB5 hg'
  have l0 := (cell_of_block hg5 0).trans (hcur 0 (.int .i64 197600) rfl)
  have l1 := (cell_of_block hg5 1).trans (hcur 1 (.int .i64 201200) rfl)
  go_wp2_with fail
  refine (sane_length h5 1 _ s6).mono ?_
  rintro e W6 ⟨rfl, h6, hB6⟩
  have a6 := h6.c0
  have b6 := h6.c1
  have hg6 := keep hB6 hg5'
  go_wp2_with fail
  refine (sane_length h6 2 _ s7).mono ?_
  rintro e W7 ⟨rfl, h7, hB7⟩
  have a7 := h7.c0
  have b7 := h7.c1
  have hg7 := keep hB7 hg6
  have m0 := (cell_of_block hg7 0).trans (hcur' 0 (.int .i64 82800) rfl)
  have m1 := (cell_of_block hg7 1).trans (hcur' 1 (.int .i64 86400) rfl)
  go_wp2_with fail
  refine (sane_within h7 90000 79200 18000 true s8).mono ?_
  rintro e W8 ⟨rfl, h8, hB8⟩
  have a8 := h8.c0
  have b8 := h8.c1
  go_wp2_with fail
  refine (sane_within h8 90000 10801 11000 false s9).mono ?_
  rintro e W9 ⟨rfl, h9, hB9⟩
  have a9 := h9.c0
  have b9 := h9.c1
  go_wp2_with fail
  refine (sane_valid h9).mono ?_
  rintro e W10 ⟨rfl, h10, hB10⟩
  go_wp2_with fail
  refine (sane_invalid h10).mono ?_
  rintro e W11 ⟨rfl, h11, hB11⟩
  go_wp2_with fail
  go_ret
  exact ⟨rfl, h11.below, by have := h11.size; omega⟩
end Go.Proofs.Ytmnilbaefimalaa
