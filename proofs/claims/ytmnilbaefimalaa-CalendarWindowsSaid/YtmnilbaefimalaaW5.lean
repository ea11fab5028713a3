/- The contracts of calendar.windows and calendar.Within. Condition: the zone's shifts lie in memory that was there before the call, fewer than 10^9 of them. -/
import Derived.Test.YtmnilbaefimalaaW4
namespace Go.Proofs.Ytmnilbaefimalaa
open Go Go.RowKit Go.Shelf

/-- The cells of a list of spans. -/
def spanCells (l : List (Int × Int)) : Array Value := (l.flatMap fun s => [.int .i64 s.1, .int .i64 s.2]).toArray

theorem spanCells_size (l : List (Int × Int)) : (spanCells l).size = l.length * 2 := by
  simp [spanCells]
  induction l with
  | nil => rfl
  | cons x r ih => simp [ih]; omega
theorem spanCells_get : ∀ (l : List (Int × Int)) (j : Nat) (u v : Int), l[j]? = some (u, v) → (spanCells l)[j * 2]? = some (.int .i64 u) ∧ (spanCells l)[j * 2 + 1]? = some (.int .i64 v)
  | [], j, u, v, h => by simp at h
  | x :: r, 0, u, v, h => by simp at h; subst h; simp [spanCells]
  | x :: r, j + 1, u, v, h => by
    have := spanCells_get r j u v (by simpa using h)
    have e : (j + 1) * 2 = j * 2 + 1 + 1 := by omega
    simp [spanCells, e] at this ⊢
    exact this

theorem windows_any (a b : Int) (w : World) : Calls Try.prog 33 #[.int .i64 a, .int .i64 b] w fun e w' => e = .returned (.slice (some ⟨w.heap.size, 0, none⟩) (wins a b).length (wins a b).length) ∧ w' = w.alloc (.cells (spanCells (wins a b)) 47) := by
  by_cases h1 : a < b
  · have e : wins a b = [(a, b)] := by simp [wins, h1]
    have E := Lib.hid e; clear e
    go_enter Try.func33, Try.ntmps33
    go_wp2
    all_goals go_ret
    all_goals rw [E.out]
    all_goals exact ⟨rfl, rfl⟩
  · by_cases h2 : b < a
    · have e : wins a b = [(0, b), (a, 86400)] := by simp [wins, h1, h2]
      have E := Lib.hid e; clear e
      go_enter Try.func33, Try.ntmps33
      go_wp2
      all_goals go_ret
      all_goals rw [E.out]
      all_goals exact ⟨rfl, rfl⟩
    · have e : wins a b = [(0, 86400)] := by simp [wins, h1, h2]
      have E := Lib.hid e; clear e
      go_enter Try.func33, Try.ntmps33
      go_wp2
      all_goals go_ret
      all_goals rw [E.out]
      all_goals exact ⟨rfl, rfl⟩

theorem wins_length (a b : Int) : (wins a b).length ≤ 2 := by unfold wins; split <;> (try split) <;> simp

set_option maxHeartbeats 1000000 in
theorem within_any (off : Int) (sa : Option Addr) (b o len cap : Nat) (ys : Sh) (s f t : Int) (w : World) (hm : len ≤ 1000000000) (hS : ShAt w.heap.size w sa b o len ys) :
    Calls Try.prog 21 #[.agg #[.int .i64 off, .slice sa len cap], .int .i64 s, .int .i64 f, .int .i64 t] w fun e w' => e = .returned (.bool (within' off ys s f t)) ∧ Below w.heap.size w w' := by
  have hv := valid_any off sa b o len cap ys (w.alloc (.cells #[.int .i64 off, .slice sa len cap] 24)) hm ((hS.low ((Low.refl _ w).alloc (Nat.le_refl _) _) (Nat.le_refl _)).up (by simp))
  have HV := Lib.hid hv; clear hv
  have HS := Lib.hid hS; clear hS
  have HW := Lib.hid (show within' off ys s f t = (valid off ys && inSec s && inDy f && inDy t && inWin f t (local' off ys s).2) from rfl)
  have hB0 : Below w.heap.size w (w.alloc (.cells #[.int .i64 off, .slice sa len cap] 24)) := (Below.refl _ w).alloc (Nat.le_refl _) _
  rcases Bool.eq_false_or_eq_true (valid off ys) with h1 | h1
  rotate_left
  · rw [HW.out, h1]
    go_enter Try.func21, Try.ntmps21
    go_wp2_with fail
    refine HV.out.mono ?_
    rintro e w1 ⟨rfl, hB⟩
    have hBw := hB0.trans (hB.mono (by simp))
    go_wp2
    go_ret
    exact ⟨rfl, hBw⟩
  rcases Bool.eq_false_or_eq_true (inSec s) with h2 | h2
  rotate_left
  · rw [HW.out, h1, h2]
    go_enter Try.func21, Try.ntmps21
    go_wp2_with fail
    refine HV.out.mono ?_
    rintro e w1 ⟨rfl, hB⟩
    have hBw := hB0.trans (hB.mono (by simp))
    go_wp2_with (go_at_call 25; refine (isSecond_any _ _).mono ?_; rintro e w' ⟨rfl, rfl⟩)
    go_ret
    exact ⟨rfl, hBw⟩
  rcases Bool.eq_false_or_eq_true (inDy f) with h3 | h3
  rotate_left
  · rw [HW.out, h1, h2, h3]
    go_enter Try.func21, Try.ntmps21
    go_wp2_with fail
    refine HV.out.mono ?_
    rintro e w1 ⟨rfl, hB⟩
    have hBw := hB0.trans (hB.mono (by simp))
    go_wp2_with (first | (go_at_call 25; refine (isSecond_any _ _).mono ?_; rintro e w' ⟨rfl, rfl⟩) | (go_at_call 32; refine (inDay_any _ _).mono ?_; rintro e w' ⟨rfl, rfl⟩))
    go_ret
    exact ⟨rfl, hBw⟩
  rcases Bool.eq_false_or_eq_true (inDy t) with h4 | h4
  rotate_left
  · rw [HW.out, h1, h2, h3, h4]
    go_enter Try.func21, Try.ntmps21
    go_wp2_with fail
    refine HV.out.mono ?_
    rintro e w1 ⟨rfl, hB⟩
    have hBw := hB0.trans (hB.mono (by simp))
    go_wp2_with (first | (go_at_call 25; refine (isSecond_any _ _).mono ?_; rintro e w' ⟨rfl, rfl⟩) | (go_at_call 32; refine (inDay_any _ _).mono ?_; rintro e w' ⟨rfl, rfl⟩))
    go_ret
    exact ⟨rfl, hBw⟩
  rw [HW.out, h1, h2, h3, h4, Bool.true_and, Bool.true_and, Bool.true_and, Bool.true_and]
  have hn : ∃ n, (local' off ys s).2 = n := ⟨_, rfl⟩
  obtain ⟨n, hn⟩ := hn
  have HN := Lib.hid hn
  rw [hn]
  clear hn
  obtain ⟨ws, hws⟩ : ∃ ws, wins f t = ws := ⟨_, rfl⟩
  have hw2 : ws.length ≤ 2 := by rw [← hws]; exact wins_length f t
  have HI := Lib.hid (show inWin f t n = ws.any fun w => decide (w.1 ≤ n ∧ n < w.2) from by rw [← hws]; rfl)
  have HWS := Lib.hid hws; clear hws
  go_enter Try.func21, Try.ntmps21
  go_wp2_with fail
  refine HV.out.mono ?_
  rintro e w1 ⟨rfl, hB⟩
  have hBw := hB0.trans (hB.mono (by simp))
  have hz1 : w1.heap[w.heap.size]? = some (.cells #[.int .i64 off, .slice sa len cap] 24) := (hB.block _ (by simp)).trans (heap_at_new w _)
  have z0 := cell_of_block hz1 0
  have z1 := cell_of_block hz1 1
  simp at z0 z1
  go_wp2_with (first | (go_at_call 25; refine (isSecond_any _ _).mono ?_; rintro e w' ⟨rfl, rfl⟩) | (go_at_call 32; refine (inDay_any _ _).mono ?_; rintro e w' ⟨rfl, rfl⟩) | (go_at_call 11; refine (local_any off sa b o len cap ys s _ hm ((HS.out.low (low_of_below hBw) (Nat.le_refl _)).up hBw.size)).mono ?_; rw [HN.out]; rintro e w2 ⟨rfl, hB2⟩) | (go_at_call 33; refine (windows_any _ _ _).mono ?_; rw [HWS.out]; rintro e w3 ⟨rfl, rfl⟩))
  have hB2' := hBw.trans (hB2.mono hBw.size)
  go_loopw [41] (fun i wr => ∃ k : Nat, k ≤ ws.length ∧ i = .int .i64 k ∧ Hid ((ws.any fun w => decide (w.1 ≤ n ∧ n < w.2)) = (ws.drop k).any fun w => decide (w.1 ≤ n ∧ n < w.2)) ∧ wr.heap[w2.heap.size]? = some (.cells (spanCells ws) 47) ∧ Below w.heap.size w wr) (fun i _ => ws.length - (intOf i).toNat)
  case atStart => exact ⟨0, Nat.zero_le _, rfl, rfl, heap_at_new _ _, hB2'.alloc hB2'.size _⟩
  case round =>
    obtain ⟨k, hk, rfl, hp, hX, hBr⟩ := hrel
    by_cases hlt : k < ws.length
    · obtain ⟨u, v, huv⟩ : ∃ u v, ws[k]? = some (u, v) := ⟨_, _, List.getElem?_eq_getElem hlt⟩
      have hdk : ws.drop k = (u, v) :: ws.drop (k + 1) := by
        rw [List.drop_eq_getElem_cons hlt]
        rw [List.getElem?_eq_getElem hlt] at huv
        rw [Option.some.inj huv]
      have HD := Lib.hid hdk; clear hdk
      have g0 := (cell_of_block hX (k * 2)).trans (spanCells_get ws k u v huv).1
      have g1 := (cell_of_block hX (k * 2 + 1)).trans (spanCells_get ws k u v huv).2
      clear huv
      by_cases hlo : u ≤ n
      · by_cases hhi : n < v
        · go_wp2
          go_ret
          exact ⟨ret_bool (by rw [HI.out, hp.out, HD.out]; simp [hlo, hhi]), hBr.alloc hBr.size _⟩
        · go_wp2
          go_roundw
          case rel => exact ⟨k + 1, by omega, by go_num, (by rw [hp.out, HD.out]; simp; omega : _ = _), some_of_alloc _ hX, hBr.alloc hBr.size _⟩
          case measure => simp [intOf]; omega
      · go_wp2
        go_roundw
        case rel => exact ⟨k + 1, by omega, by go_num, (by rw [hp.out, HD.out]; simp; omega : _ = _), some_of_alloc _ hX, hBr.alloc hBr.size _⟩
        case measure => simp [intOf]; omega
    · go_wp2
      go_ret
      have hd : ws.drop k = [] := by rw [List.drop_eq_nil_iff]; omega
      exact ⟨ret_bool (by rw [HI.out, hp.out, hd]; rfl), hBr⟩
end Go.Proofs.Ytmnilbaefimalaa
