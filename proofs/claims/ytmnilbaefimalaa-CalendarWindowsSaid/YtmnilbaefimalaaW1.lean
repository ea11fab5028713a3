/- What the functions of package calendar compute, read off the translated program: a contract for each function but Spans. Conditions: the zone's shifts lie in memory that was there before the call, fewer than 10^9 of them. -/
import Derived.Test.YtmnilbaefimalaaProg
import Derived.Test.YtmnilbaefimalaaR
import Derived.Test.YtmnilbaefimalaaM
namespace Go.Proofs.Ytmnilbaefimalaa
open Go Go.RowKit Go.Shelf
attribute [local go_sem] Oper.semAt_some

def encS (x : St) : Array Value := #[.agg #[.int .i64 x.1, .int .i64 x.2.1, .int .i64 x.2.2]]
def TS (t : TypeId) : Bool := t == 57 || t == 43

/-- The slice value '.slice sa len _' holds the shifts ys, in a block below n. -/
structure ShAt (n : Nat) (W : World) (sa : Option Addr) (b o len : Nat) (ys : Sh) : Prop where
  eq : ys.length = len
  ad : len = 0 ∨ sa = some ⟨b, o, none⟩
  lt : b < n
  c0 : ∀ j, j < len → W.cell? ⟨b, o + j * 2, none⟩ = some (.int .i64 (ys[j]?.getD default).1)
  c1 : ∀ j, j < len → W.cell? ⟨b, o + j * 2 + 1, none⟩ = some (.int .i64 (ys[j]?.getD default).2)

theorem ShAt.low {n m : Nat} {A B : World} {sa : Option Addr} {b o len : Nat} {ys : Sh} (h : ShAt n A sa b o len ys) (hl : Low m A B) (hm : n ≤ m) : ShAt n B sa b o len ys :=
  ⟨h.eq, h.ad, h.lt, fun j hj => (hl.cell (p := ⟨b, o + j * 2, none⟩) (by have := h.lt; dsimp only; omega)).trans (h.c0 j hj), fun j hj => (hl.cell (p := ⟨b, o + j * 2 + 1, none⟩) (by have := h.lt; dsimp only; omega)).trans (h.c1 j hj)⟩

theorem ShAt.up {n m : Nat} {A : World} {sa : Option Addr} {b o len : Nat} {ys : Sh} (h : ShAt n A sa b o len ys) (hm : n ≤ m) : ShAt m A sa b o len ys :=
  ⟨h.eq, h.ad, by have := h.lt; omega, h.c0, h.c1⟩

theorem low_of_below {n : Nat} {A B : World} (h : Below n A B) : Low n A B := ⟨h.size, h.block⟩

theorem isOffset_any (o : Int) (w : World) : Calls Try.prog 29 #[.int .i64 o] w fun e w' => e = .returned (.bool (okOff o)) ∧ w = w' := by
  go_enter Try.func29, Try.ntmps29
  go_wp2
  all_goals (go_ret; refine ⟨?_, rfl⟩; simp [okOff]; try omega)

theorem isSecond_any (o : Int) (w : World) : Calls Try.prog 25 #[.int .i64 o] w fun e w' => e = .returned (.bool (inSec o)) ∧ w = w' := by
  go_enter Try.func25, Try.ntmps25
  go_wp2
  all_goals (go_ret; refine ⟨?_, rfl⟩; simp [inSec]; try omega)

theorem isDay_any (o : Int) (w : World) : Calls Try.prog 30 #[.int .i64 o] w fun e w' => e = .returned (.bool (isDy o)) ∧ w = w' := by
  go_enter Try.func30, Try.ntmps30
  go_wp2
  all_goals (go_ret; refine ⟨?_, rfl⟩; simp [isDy]; try omega)

theorem inDay_any (o : Int) (w : World) : Calls Try.prog 32 #[.int .i64 o] w fun e w' => e = .returned (.bool (inDy o)) ∧ w = w' := by
  go_enter Try.func32, Try.ntmps32
  go_wp2
  all_goals (go_ret; refine ⟨?_, rfl⟩; simp [inDy]; try omega)

theorem ret_bool {a b : Bool} (h : a = b) : Ending.returned (.bool a) = Ending.returned (.bool b) := by rw [h]
theorem ret_int {k : IntKind} {a b : Int} (h : a = b) : Ending.returned (.int k a) = Ending.returned (.int k b) := by rw [h]
theorem ret2_int {a b c d : Int} (h : a = c) (k : b = d) : Ending.returned (.tuple #[.int .i64 a, .int .i64 b]) = Ending.returned (.tuple #[.int .i64 c, .int .i64 d]) := by rw [h, k]

theorem divide_any (l : Int) (h0 : -100000000000 ≤ l) (h1 : l ≤ 100000000000) (w : World) : Calls Try.prog 27 #[.int .i64 l] w fun e w' => e = .returned (.tuple #[.int .i64 (l / 86400), .int .i64 (l % 86400)]) ∧ w = w' := by
  have e1 := Int.tmod_lt_of_pos l (b := 86400) (by omega)
  have e2 := Int.mul_tdiv_add_tmod l 86400
  have e3 := Int.lt_tmod_of_pos l (b := 86400) (by omega)
  have E1 := Lib.hid e1; have E2 := Lib.hid e2; have E3 := Lib.hid e3
  clear e1 e2 e3
  go_enter Try.func27, Try.ntmps27
  go_wp2
  · have hlt : l.tmod 86400 < 0 := by assumption
    go_ret2
    have := E1.out; have := E2.out; have := E3.out
    have hd : l.tdiv 86400 - 1 = l / 86400 := by omega
    have hm : l.tmod 86400 + 86400 = l % 86400 := by omega
    refine ⟨ret2_int ?_ ?_, rfl⟩
    · rw [hd]; exact IntWalk.wrap64_in _ (by omega)
    · rw [hm]; exact IntWalk.wrap64_in _ (by omega)
  · have hlt : 0 ≤ l.tmod 86400 := by assumption
    go_ret2
    have := E1.out; have := E2.out; have := E3.out
    exact ⟨ret2_int (by omega) (by omega), rfl⟩

set_option maxHeartbeats 400000 in
theorem valid_any (off : Int) (sa : Option Addr) (b o len cap : Nat) (xs : Sh) (w : World) (hm : len ≤ 1000000000) (hS : ShAt w.heap.size w sa b o len xs) :
    Calls Try.prog 13 #[.agg #[.int .i64 off, .slice sa len cap]] w fun e w' => e = .returned (.bool (valid off xs)) ∧ Below w.heap.size w w' := by
  have HS := Lib.hid hS; clear hS
  have Hl := Lib.hid HS.out.eq
  by_cases hlen : 40 < len
  · go_enter Try.func13, Try.ntmps13
    go_wp2
    go_ret
    refine ⟨?_, (Below.refl _ _).alloc (Nat.le_refl _) _⟩
    have := Hl.out
    simp [valid]; omega
  rcases Bool.eq_false_or_eq_true (okOff off) with Ho | Ho
  · go_enter Try.func13, Try.ntmps13
    go_wp2_with (first | (go_at_call 29; refine (isOffset_any _ _).mono ?_; rintro e w' ⟨rfl, rfl⟩))
    go_loopw [3, 19] (fun l i wr => ∃ (k : Nat) (last : Int), k ≤ len ∧ i = .int .i64 k ∧ l = .int .i64 last ∧ Hid (validFrom (-1) xs = validFrom last (xs.drop k)) ∧ Below w.heap.size w wr) (fun _ i _ => len - (intOf i).toNat)
    case atStart => exact ⟨0, -1, Nat.zero_le _, rfl, rfl, rfl, (Below.refl _ _).alloc (Nat.le_refl _) _⟩
    case round =>
      obtain ⟨k, last, hk, rfl, rfl, hv, hB⟩ := hrel
      by_cases hlt : k < len
      · obtain rfl : sa = some ⟨b, o, none⟩ := HS.out.ad.resolve_left (by omega)
        have g0 := (hB.cell (p := ⟨b, o + k * 2, none⟩) HS.out.lt).trans (HS.out.c0 k hlt)
        have g1 := (hB.cell (p := ⟨b, o + k * 2 + 1, none⟩) HS.out.lt).trans (HS.out.c1 k hlt)
        obtain ⟨u, v, huv⟩ : ∃ u v, xs[k]?.getD default = (u, v) := ⟨_, _, rfl⟩
        rw [huv] at g0 g1
        have hdk : xs.drop k = (u, v) :: xs.drop (k + 1) := drop_at HS.out.eq hlt huv
        have HD := Lib.hid hdk; clear hdk
        clear huv
        go_wp2_with (first | (go_at_call 29; refine (isOffset_any _ _).mono ?_; rintro e w' ⟨rfl, rfl⟩))
        · rename_i hbad
          have hbv : okOff v = false := by simp at hbad; rcases hbad with (h | h) | h <;> first | exact h | (exfalso; omega)
          go_ret
          exact ⟨ret_bool (valid_stop (by rw [← HD.out]; exact hv.out) (.inr (.inr hbv))).symm, hB.alloc hB.size _⟩
        · rename_i hgood
          have hgv : okOff v = true := by simp at hgood; exact hgood.2
          go_roundw
          case rel => exact ⟨k + 1, u, by omega, by go_num, rfl, valid_go (by rw [← HD.out]; exact hv.out) (by omega) (by omega) hgv, hB.alloc hB.size _⟩
          case measure => simp [intOf]; omega
        · go_ret
          exact ⟨ret_bool (valid_stop (by rw [← HD.out]; exact hv.out) (.inr (.inl (by assumption)))).symm, hB.alloc hB.size _⟩
        · go_ret
          exact ⟨ret_bool (valid_stop (by rw [← HD.out]; exact hv.out) (.inl (by assumption))).symm, hB.alloc hB.size _⟩
      · go_wp2
        go_ret
        have := Hl.out
        have hkl : xs.drop k = [] := by rw [List.drop_eq_nil_iff]; omega
        exact ⟨ret_bool (valid_end (by rw [← hkl]; exact hv.out) (by omega) Ho).symm, hB⟩
  · go_enter Try.func13, Try.ntmps13
    go_wp2_with (first | (go_at_call 29; refine (isOffset_any _ _).mono ?_; rintro e w' ⟨rfl, rfl⟩))
    go_ret
    exact ⟨by simp [valid, Ho], (Below.refl _ _).alloc (Nat.le_refl _) _⟩

theorem stretches_any (z : Value) (a c : Value) (hz : z = .agg #[a, c]) (w : World) : Calls Try.prog 26 #[z] w fun e w' => e = .returned (.func (.func 35) #[] #[.pointer (some ⟨w.heap.size, 0, none⟩)]) ∧ w' = w.alloc (.cells #[a, c] 24) := by
  subst hz
  go_enter Try.func26, Try.ntmps26
  go_wp2
  go_ret
  exact ⟨rfl, rfl⟩

set_option maxRecDepth 100000 in
set_option maxHeartbeats 1000000 in
theorem stretches1_in (l m n₀ Bz b o len cap : Nat) (sa : Option Addr) (off : Int) (ys : Sh) (J Jx : List (Int × Int × Int) → World → Prop) (W : World) (hm : len ≤ 1000000000) (hS : ShAt n₀ W sa b o len ys) (hn : n₀ ≤ W.heap.size)
    (hJ : ∀ s A B, J s A → Turn TS W.heap.size A B → J s B) (hJx : ∀ s A B, Jx s A → Turn TS W.heap.size A B → Jx s B)
    (hY : ∀ pre x W1, pre ++ [x] <+: strs 0 off ys → J pre W1 → YieldAt Fence.wide m Try.prog l (encS x) W1 fun e W' =>
      (e = .returned (.bool true) ∧ J (pre ++ [x]) W' ∧ Keeps TS n₀ W1 W') ∨ (e = .returned (.bool false) ∧ Jx (pre ++ [x]) W'))
    (hz0 : W.cell? ⟨Bz, 0, none⟩ = some (.int .i64 off)) (hz1 : W.cell? ⟨Bz, 1, none⟩ = some (.slice sa len cap)) (hzl : Bz < W.heap.size) (h0 : J [] W) :
    CallsIn Fence.wide (m + 1) Try.prog 35 #[.func (.yield l) #[] #[], .pointer (some ⟨Bz, 0, none⟩)] W fun e W' => (∃ v, e = .returned v) ∧ (J (strs 0 off ys) W' ∨ (∃ pre, pre <+: strs 0 off ys ∧ Jx pre W')) := by
  have HJ := Lib.hid hJ; clear hJ
  have HJx := Lib.hid hJx; clear hJx
  have HY := Lib.hid hY; clear hY
  refine callsIn_of_wp Try.func35 rfl trivial ?_ rfl
  simp only [Try.ntmps35, List.size_toArray, List.length_cons, List.length_nil, Nat.reduceAdd, Nat.reduceSub, Array.replicate_succ, Array.replicate_zero, List.push_toArray, List.append_toArray, List.nil_append, List.cons_append]
  gi_wp2
  have hX0 := heap_at_new W (.cells #[.int .i64 0, .int .i64 0, .int .i64 off] 57)
  gi_loopw [12] (fun i wr => ∃ (k : Nat) (a tt of' : Int) (pre : List (Int × Int × Int)), k ≤ len ∧ i = .int .i64 k ∧ wr.heap[W.heap.size]? = some (.cells #[.int .i64 a, .int .i64 tt, .int .i64 of'] 57) ∧ Hid (pre ++ strs a of' (ys.drop k) = strs 0 off ys) ∧ J pre wr ∧ Low n₀ W wr)
    (fun i _ => len - (intOf i).toNat)
  case atStart =>
    refine ⟨0, 0, 0, off, [], Nat.zero_le _, rfl, hX0, rfl, HJ.out _ _ _ h0 ((Turn.refl _ _ _).alloc _), (Low.refl _ _).alloc hn _⟩
  case round =>
    obtain ⟨k, a, tt, of', pre, hk, rfl, hX, hp, hJs, hB⟩ := hrel
    have x0 := cell_of_block hX 0
    have x1 := cell_of_block hX 1
    have x2 := cell_of_block hX 2
    have z0 := frozen_of_block hX 0
    have z1 := frozen_of_block hX 1
    have z2 := frozen_of_block hX 2
    simp at x0 x1 x2
    have hXl : W.heap.size < wr.heap.size := (Array.getElem?_eq_some_iff.1 hX).1
    have hXp : ∀ o', wr.heap[W.heap.size]? = some o' → privOf TS o' = true := fun o' h => by rw [hX] at h; cases h; rfl
    have HXp := Lib.hid hXp; clear hXp
    have HS := Lib.hid hS; clear hS
    by_cases hlt : k < len
    · obtain rfl : sa = some ⟨b, o, none⟩ := HS.out.ad.resolve_left (by omega)
      have g0 := (hB.cell (p := ⟨b, o + k * 2, none⟩) (HS.out.lt)).trans (HS.out.c0 k hlt)
      have g1 := (hB.cell (p := ⟨b, o + k * 2 + 1, none⟩) (HS.out.lt)).trans (HS.out.c1 k hlt)
      obtain ⟨u, v, huv⟩ : ∃ u v, ys[k]?.getD default = (u, v) := ⟨_, _, rfl⟩
      rw [huv] at g0 g1
      have hdk : ys.drop k = (u, v) :: ys.drop (k + 1) := drop_at HS.out.eq hlt huv
      have HD := Lib.hid hdk; clear hdk
      have HUV := Lib.hid huv; clear huv
      obtain ⟨wy, hwy⟩ : ∃ wy, (wr.setCell ⟨W.heap.size, 1, none⟩ (.int .i64 u)).alloc (.cells #[.int .i64 u, .int .i64 v] 43) = wy := ⟨_, rfl⟩
      have hJy : J pre wy := by rw [← hwy]; exact HJ.out _ _ _ hJs (((Turn.refl _ _ _).setCell (p := ⟨W.heap.size, 1, none⟩) _ (Nat.le_refl _) HXp.out).alloc _)
      have hXy : wy.heap[W.heap.size]? = some (.cells #[.int .i64 a, .int .i64 u, .int .i64 of'] 57) := by
        rw [← hwy]; exact some_of_alloc _ (setCell_heap hX 1 _)
      have hSy : wy.heap[wr.heap.size]? = some (.cells #[.int .i64 u, .int .i64 v] 43) := by
        rw [← hwy]; have := heap_at_new (wr.setCell ⟨W.heap.size, 1, none⟩ (.int .i64 u)) (.cells #[.int .i64 u, .int .i64 v] 43); simpa [World.setCell] using this
      have hBy : Low n₀ W wy := by rw [← hwy]; exact (hB.setCell (p := ⟨W.heap.size, 1, none⟩) hn _).alloc hn _
      have HW := Lib.hid hwy; clear hwy
      by_cases hlt2 : a < u
      · have hpp : pre ++ [(a, u, of')] <+: strs 0 off ys := by
          rw [← hp.out, HD.out]; simp [strs, hlt2]
        obtain ⟨fn, tmps, assign, body, hy, hR⟩ := HY.out pre (a, u, of') wy hpp hJy
        dsimp only [encS] at hy
        rw [← HW.out] at hy hR
        gi_wp2
        refine hR.mono ?_
        rw [HW.out]
        rintro e W3 (⟨rfl, hJ3, hk3⟩ | ⟨rfl, hJx3⟩)
        · have hX3 := hk3.priv _ _ hXy rfl
          have hS3 := hk3.priv _ _ hSy rfl
          have y0 := cell_of_block hX3 0
          have y1 := cell_of_block hX3 1
          have y2 := cell_of_block hX3 2
          have q0 := frozen_of_block hX3 0
          have q1 := frozen_of_block hX3 1
          have q2 := frozen_of_block hX3 2
          have s0 := cell_of_block hS3 0
          have s1 := cell_of_block hS3 1
          simp at y0 y1 y2 s0 s1
          have hXp3 : ∀ o', W3.heap[W.heap.size]? = some o' → privOf TS o' = true := fun o' h => by rw [hX3] at h; cases h; rfl
          have HXp3 := Lib.hid hXp3; clear hXp3
          gi_wp2
          go_roundw
          case rel => exact ⟨k + 1, u, 0, v, pre ++ [(a, u, of')], by omega, by go_num, heap3 hX3 _ _ _, (by rw [← hp.out, HD.out]; simp [strs, hlt2] : _ = _), HJ.out _ _ _ hJ3 (turn3 (Turn.refl _ _ _) hX3 rfl (Nat.le_refl _) _ _ _), low3 (hBy.keeps hk3) hn _ _ _⟩
          case measure => simp [intOf]; omega
        · gi_wp2
          refine bodyPost_ret (results_none rfl _ _ _) rfl ?_
          exact ⟨⟨_, rfl⟩, .inr ⟨_, hpp, hJx3⟩⟩
      · gi_wp2
        refine ⟨fun _ h => (by cases h), ?_⟩
        gi_wp2
        have hX1 := setCell_heap hX 1 (.int .i64 u)
        go_roundw
        case rel => exact ⟨k + 1, u, 0, v, pre, by omega, by go_num, some_of_alloc _ (heap3 hX1 _ _ _), (by rw [← hp.out, HD.out]; simp [strs, hlt2] : _ = _), HJ.out _ _ _ hJs ((turn3 (turn1 (Turn.refl _ _ _) hX rfl (Nat.le_refl _) _ _) hX1 rfl (Nat.le_refl _) _ _ _).alloc _), (low3 (hB.setCell (p := ⟨W.heap.size, 1, none⟩) hn _) hn _ _ _).alloc hn _⟩
        case measure => simp [intOf]; omega
    · have hkl : ys.drop k = [] := by rw [List.drop_eq_nil_iff, HS.out.eq]; omega
      have hpp : pre ++ [(a, 10000000001, of')] = strs 0 off ys := by rw [← hp.out, hkl]; rfl
      have HP := Lib.hid hpp; clear hpp hkl
      obtain ⟨wy, hwy⟩ : ∃ wy, (wr.setCell ⟨W.heap.size, 1, none⟩ (.int .i64 10000000001)) = wy := ⟨_, rfl⟩
      have hJy : J pre wy := by rw [← hwy]; exact HJ.out _ _ _ hJs (turn1 (Turn.refl _ _ _) hX rfl (Nat.le_refl _) _ _)
      obtain ⟨fn, tmps, assign, body, hy, hR⟩ := HY.out pre (a, 10000000001, of') wy (by rw [HP.out]; exact List.prefix_refl _) hJy
      dsimp only [encS] at hy
      have HW := Lib.hid hwy; clear hwy
      rw [← HW.out] at hy hR
      gi_wp2
      refine hR.mono ?_
      rw [HW.out]
      rintro e W3 (⟨rfl, hJ3, hk3⟩ | ⟨rfl, hJx3⟩)
      · gi_wp2
        go_end0
        exact ⟨⟨_, rfl⟩, .inl (by rw [← HP.out]; exact hJ3)⟩
      · gi_wp2
        go_end0
        exact ⟨⟨_, rfl⟩, .inr ⟨_, by rw [HP.out]; exact List.prefix_refl _, hJx3⟩⟩
end Go.Proofs.Ytmnilbaefimalaa
