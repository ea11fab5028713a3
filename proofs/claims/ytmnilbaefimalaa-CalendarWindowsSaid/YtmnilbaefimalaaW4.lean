/- The contract of calendar.At. Condition: the zone's shifts lie in memory that was there before the call, fewer than 10^9 of them. -/
import Derived.Test.YtmnilbaefimalaaW3
namespace Go.Proofs.Ytmnilbaefimalaa
open Go Go.RowKit Go.Shelf
attribute [local go_sem] Oper.semAt_some

theorem info3 : (Try.prog.info? 3).map (fun i => (i.zero, i.size, i.bytes)) = some (some (.int .i64 0), 1, 8) := by kernel_rfl

theorem blk3 (w : World) (o1 o2 o3 : Obj) : (((w.alloc o1).alloc o2).alloc o3).heap[w.heap.size]? = some o1 ∧ (((w.alloc o1).alloc o2).alloc o3).heap[w.heap.size + 1]? = some o2 ∧ (((w.alloc o1).alloc o2).alloc o3).heap[w.heap.size + 2]? = some o3 :=
  ⟨some_of_alloc _ (blk2 w o1 o2).1, some_of_alloc _ (blk2 w o1 o2).2, by have := heap_at_new ((w.alloc o1).alloc o2) o3; rwa [size2] at this⟩
theorem after3 {w w1 : World} {o1 o2 o3 : Obj} (hB : Below (((w.alloc o1).alloc o2).alloc o3).heap.size (((w.alloc o1).alloc o2).alloc o3) w1) :
    w1.heap[w.heap.size]? = some o1 ∧ w1.heap[w.heap.size + 1]? = some o2 ∧ w1.heap[w.heap.size + 2]? = some o3 ∧ w.heap.size + 3 ≤ w1.heap.size ∧ Below w.heap.size w w1 := by
  have h := blk3 w o1 o2 o3
  have hs : (((w.alloc o1).alloc o2).alloc o3).heap.size = w.heap.size + 3 := by simp
  rw [hs] at hB
  exact ⟨(hB.block _ (by omega)).trans h.1, (hB.block _ (by omega)).trans h.2.1, (hB.block _ (by omega)).trans h.2.2, by have := hB.size; omega, (((below2 w o1 o2).alloc (by simp; omega) o3)).trans (hB.mono (by omega))⟩

/-- The slice value v holds the integers zs, in a row of its own from block n on. -/
abbrev OwnInts (W : World) (n : Nat) (v : Value) (zs : List Int) : Prop := W.ownsRow n 3 1 v zs.length (zs.map (Value.int .i64))

theorem ints_snoc {W : World} {n : Nat} {v : Value} {zs : List Int} {x : Int} (h : W.ownsRow n 3 1 v (zs.length + 1) (zs.map (Value.int .i64) ++ [.int .i64 x])) : OwnInts W n v (zs ++ [x]) := by
  unfold OwnInts; simpa using h

theorem own_weaken {W : World} {base base' e size k : Nat} {v : Value} {xs : List Value} (hr : W.ownsRow base e size v k xs) (h : base' ≤ base) : W.ownsRow base' e size v k xs := by
  obtain ⟨h1, h2⟩ := hr
  refine ⟨h1, ?_⟩
  rcases h2 with h2 | ⟨g, cap, cur, h3, h4, h5⟩
  · exact .inl h2
  · exact .inr ⟨g, cap, cur, h3, by omega, h5⟩

set_option maxHeartbeats 400000 in
theorem at_bad (off : Int) (sa : Option Addr) (b o len cap : Nat) (ys : Sh) (d s : Int) (w : World) (hm : len ≤ 1000000000) (hS : ShAt w.heap.size w sa b o len ys) (hbad : (valid off ys && isDy d && inDy s) = false) :
    Calls Try.prog 19 #[.agg #[.int .i64 off, .slice sa len cap], .int .i64 d, .int .i64 s] w fun e w' => (∃ v, e = .returned v ∧ OwnInts w' w.heap.size v (at' off ys d s)) ∧ Below w.heap.size w w' := by
  have HL : at' off ys d s = [] := by unfold at'; rw [hbad]; rfl
  rw [HL]
  clear HL
  have hv := valid_any off sa b o len cap ys (((w.alloc (.cells #[.int .i64 off, .slice sa len cap] 24)).alloc (.cells #[.int .i64 d] 3)).alloc (.cells #[.int .i64 s] 3)) hm ((hS.low ((((Low.refl _ w).alloc (Nat.le_refl _) _).alloc (Nat.le_refl _) _).alloc (Nat.le_refl _) _) (Nat.le_refl _)).up (by simp; omega))
  have HV := Lib.hid hv; clear hv
  have fin : ∀ (w1 : World), Below w.heap.size w w1 → (∃ v, Ending.returned (.slice none 0 0) = .returned v ∧ OwnInts w1 w.heap.size v []) ∧ Below w.heap.size w w1 := fun w1 h => ⟨⟨_, rfl, World.ownsRow_nil _ _ _ _⟩, h⟩
  rcases Bool.eq_false_or_eq_true (valid off ys) with h1 | h1
  · rcases Bool.eq_false_or_eq_true (isDy d) with h2 | h2
    · rcases Bool.eq_false_or_eq_true (inDy s) with h3 | h3
      · simp [h1, h2, h3] at hbad
      clear hbad
      go_enter Try.func19, Try.ntmps19
      go_wp2_with fail
      refine HV.out.mono ?_
      rintro e w1 ⟨rfl, hB⟩
      obtain ⟨_, hs1, hs2, _, hBw⟩ := after3 hB
      have c1 := cell_of_block hs1 0
      have c2 := cell_of_block hs2 0
      simp at c1 c2
      go_wp2_with (first | (go_at_call 30; refine (isDay_any _ _).mono ?_; rintro e w' ⟨rfl, rfl⟩) | (go_at_call 32; refine (inDay_any _ _).mono ?_; rintro e w' ⟨rfl, rfl⟩))
      go_ret
      exact fin _ hBw
    · clear hbad
      go_enter Try.func19, Try.ntmps19
      go_wp2_with fail
      refine HV.out.mono ?_
      rintro e w1 ⟨rfl, hB⟩
      obtain ⟨_, hs1, hs2, _, hBw⟩ := after3 hB
      have c1 := cell_of_block hs1 0
      simp at c1
      go_wp2_with (first | (go_at_call 30; refine (isDay_any _ _).mono ?_; rintro e w' ⟨rfl, rfl⟩))
      go_ret
      exact fin _ hBw
  · clear hbad
    go_enter Try.func19, Try.ntmps19
    go_wp2_with fail
    refine HV.out.mono ?_
    rintro e w1 ⟨rfl, hB⟩
    obtain ⟨_, _, _, _, hBw⟩ := after3 hB
    go_wp2
    go_ret
    exact fin _ hBw

set_option maxRecDepth 100000 in
set_option maxHeartbeats 1000000 in
theorem at_good (off : Int) (sa : Option Addr) (b o len cap : Nat) (ys : Sh) (d s : Int) (w : World) (hm : len ≤ 1000000000) (hS : ShAt w.heap.size w sa b o len ys) (h1 : valid off ys = true) (h2 : isDy d = true) (h3 : inDy s = true) :
    CallsIn Fence.wide 5 Try.prog 19 #[.agg #[.int .i64 off, .slice sa len cap], .int .i64 d, .int .i64 s] w fun e w' => (∃ v, e = .returned v ∧ OwnInts w' w.heap.size v (at' off ys d s)) ∧ Below w.heap.size w w' := by
  have HL : at' off ys d s = atAll d s (strs 0 off ys) := by unfold at'; rw [h1, h2, h3]; rfl
  rw [HL]
  clear HL
  obtain ⟨i0, hi, hy0, hy1, hy2⟩ := info_parts info3
  have hv := valid_any off sa b o len cap ys (((w.alloc (.cells #[.int .i64 off, .slice sa len cap] 24)).alloc (.cells #[.int .i64 d] 3)).alloc (.cells #[.int .i64 s] 3)) hm ((hS.low ((((Low.refl _ w).alloc (Nat.le_refl _) _).alloc (Nat.le_refl _) _).alloc (Nat.le_refl _) _) (Nat.le_refl _)).up (by simp; omega))
  have HV := Lib.hid hv; clear hv
  have HX := Lib.hid (strs_ok h1)
  have HN := Lib.hid (valid_len h1)
  have hdb : -1 ≤ d ∧ d ≤ 115741 := by simpa [isDy] using h2
  have hsb : 0 ≤ s ∧ s < 86400 := by simpa [inDy] using h3
  have HS := Lib.hid hS; clear hS
  refine callsIn_of_wp_marks Try.func19 rfl trivial ?_ rfl
  simp only [Try.ntmps19, List.size_toArray, List.length_cons, List.length_nil, Nat.reduceAdd, Nat.reduceSub, Array.replicate_succ, Array.replicate_zero, List.push_toArray, List.append_toArray, List.nil_append, List.cons_append]
  gi_wp2_with fail
  refine ⟨trivial, (callsIn_wide.2 HV.out).mono ?_⟩
  rintro e w1 ⟨rfl, hB⟩
  obtain ⟨hz1, hd1, hs1, hsz, hBw⟩ := after3 hB
  have c1 := cell_of_block hd1 0
  have c2 := cell_of_block hs1 0
  have z0 := cell_of_block hz1 0
  have z1 := cell_of_block hz1 1
  simp at c1 c2 z0 z1
  have s1 : w.heap.size < w1.heap.size := by omega
  have s2 : w.heap.size + 1 < w1.heap.size := by omega
  have s3 : w.heap.size + 2 < w1.heap.size := by omega
  gi_wp2_with (refine ⟨trivial, ?_⟩; first | (gi_at_call 30; refine (callsIn_wide.2 (isDay_any _ _)).mono ?_; rintro e w' ⟨rfl, rfl⟩) | (gi_at_call 32; refine (callsIn_wide.2 (inDay_any _ _)).mono ?_; rintro e w' ⟨rfl, rfl⟩) | (gi_at_call 26; refine (callsIn_wide.2 (stretches_any _ _ _ rfl _)).mono ?_; rintro e w' ⟨rfl, rfl⟩))
  have b1 := blk2 w1 (.cells #[.slice none 0 0] 32) (.cells #[.int .i64 off, .slice sa len cap] 24)
  have hBW := hBw.trans ((below2 w1 (.cells #[.slice none 0 0] 32) (.cells #[.int .i64 off, .slice sa len cap] 24)).mono hBw.size)
  refine wp_range_iter (m := 3) TS (gf := 35) (lb := #[.pointer (some ⟨w1.heap.size + 1, 0, none⟩)]) rfl (enters_of Try.func35 (by kernel_rfl) rfl)
    (stretches_iter hm (HS.out.low (low_of_below hBW) (Nat.le_refl _)) hBW.size b1.2) (Below.refl _ _) hBW.size (fun _ => rfl)
    (fun pre W => W.heap[w.heap.size + 1]? = some (.cells #[.int .i64 d] 3) ∧ W.heap[w.heap.size + 2]? = some (.cells #[.int .i64 s] 3) ∧ (∃ v, W.heap[w1.heap.size]? = some (.cells #[v] 32) ∧ OwnInts W w1.heap.size v (atAll d s pre)) ∧ Below w.heap.size w W)
    (fun _ _ _ => False)
    (fun _ A B h k => ⟨k.cells h.1 rfl, k.cells h.2.1 rfl, (by obtain ⟨v, hv1, hv2⟩ := h.2.2.1; exact ⟨v, k.cells hv1 rfl, k.ownsRow hv2 rfl⟩), k.below h.2.2.2 hBW.size (Nat.le_refl _)⟩)
    (fun _ _ A B h k => h)
    ⟨some_of_alloc _ (some_of_alloc _ hd1), some_of_alloc _ (some_of_alloc _ hs1), ⟨_, b1.1, World.ownsRow_nil _ _ _ _⟩, hBW⟩
    (fun pre x a' W => ∃ X, a' = { tmps := #[.agg #[.int .i64 off, .slice sa len cap], .int .i64 d, .int .i64 s, .pointer (some ⟨w.heap.size, 0, none⟩), .pointer (some ⟨w.heap.size + 1, 0, none⟩), .pointer (some ⟨w.heap.size + 2, 0, none⟩), .slice none 0 0, .pointer (some ⟨w1.heap.size, 0, none⟩), .pointer (some ⟨X, 0, none⟩), undef, .agg #[.int .i64 off, .slice sa len cap], .bool true, .bool false, .bool false, .int .i64 d, .bool true, .bool false, .bool false, .bool false, .int .i64 s, .bool true, .bool false, .bool false, .agg #[.int .i64 off, .slice sa len cap], .func (.func 35) #[] #[.pointer (some ⟨w1.heap.size + 1, 0, none⟩)], .agg #[.int .i64 x.1, .int .i64 x.2.1, .int .i64 x.2.2], undef, undef, undef, undef, undef, undef, undef, undef, undef, undef, undef, undef, undef, undef, undef, undef, undef, undef, undef, undef, undef, undef], defers := [] } ∧ W.heap[X]? = some (.cells #[.int .i64 x.1, .int .i64 x.2.1, .int .i64 x.2.2] 57) ∧
      W.heap[w.heap.size + 1]? = some (.cells #[.int .i64 d] 3) ∧ W.heap[w.heap.size + 2]? = some (.cells #[.int .i64 s] 3) ∧ (∃ v, W.heap[w1.heap.size]? = some (.cells #[v] 32) ∧ OwnInts W w1.heap.size v (atAll d s pre)) ∧ Below w.heap.size w W)
    (fun pre x a' A B h k => by obtain ⟨X, h1, h2, h3, h4, ⟨v, h5, h5'⟩, h6⟩ := h; exact ⟨X, h1, k.cells h2 rfl, k.cells h3 rfl, k.cells h4 rfl, ⟨v, k.cells h5 rfl, k.ownsRow h5' rfl⟩, k.below h6 hBW.size (Nat.le_refl _)⟩)
    ?assign ?body ?done ?stop
  case assign =>
    rintro l pre x W hpre ⟨hd, hs, ⟨v, ho, hr⟩, hBx⟩
    dsimp only [encS]
    gi_wp2
    exact ⟨(BodyKeeps.refl _ _ _ _).alloc hBx.size _, W.heap.size, rfl, heap_at_new _ _, some_of_alloc _ hd, some_of_alloc _ hs, ⟨v, some_of_alloc _ ho, hr.alloc _⟩, hBx.alloc hBx.size _⟩
  case body =>
    rintro l pre x a' W hpre ⟨X, rfl, hX, hd, hs, ⟨v, ho, hr⟩, hBx⟩
    have x0 := cell_of_block hX 0
    have x1 := cell_of_block hX 1
    have x2 := cell_of_block hX 2
    have c2 := cell_of_block hd 0
    have c3 := cell_of_block hs 0
    have c4 := cell_of_block ho 0
    have f4 := frozen_of_block ho 0
    simp at x0 x1 x2 c2 c3 c4
    have hxb := HX.out x (hpre.subset (by simp))
    have hpl : (atAll d s pre).length ≤ 41 := by
      have h3 := hpre.length_le
      have h4 := strs_length ys 0 off
      have h5 := HN.out
      have h6 := atAll_length d s pre
      simp at h3; omega
    have hWl : w1.heap.size < W.heap.size := (Array.getElem?_eq_some_iff.1 ho).1
    by_cases hlo : x.1 ≤ d * 86400 + s - x.2.2
    · by_cases hhi : d * 86400 + s - x.2.2 < x.2.1
      · gi_wp2_with (gi_at_builtin; refine wpListIn_append_own _ rfl _ _ 32 rfl w1.heap.size 3 i0 (.int .i64 0) 1 8 Try.underlying32 hi hy0 hy1 hy2 rfl (by decide) _ _ _ rfl (hr.alloc _) ⟨W.heap.size, 0, none⟩ 1 1 [.int .i64 (d * 86400 + s - x.2.2)] rfl rfl (cell_one_new _ _ _) (by simp [Value.oneCell']) (by unfold maxLen; omega) (by omega) (by simp; omega) ?_; intro v' w2 hown' hgrow _; obtain ⟨g', cap', rfl⟩ := ownsRow_succ hown'; have ho2 := grown_other hgrow (some_of_alloc (.cells #[.int .i64 (d * 86400 + s - x.2.2)] 3) ho) (own_other hr ho (by decide)); have c5 := cell_of_block ho2 0; have f5 := frozen_of_block ho2 0; simp at c5)
        have hne : ∀ k, k < w1.heap.size → some k ≠ v.ownBlock := fun k hk e => by have := (own_known (T := TS) (hr.alloc (.cells #[.int .i64 (d * 86400 + s - x.2.2)] 3)) rfl _ e.symm).1; omega
        have hgr : ∀ k, v.ownBlock = some k → w.heap.size ≤ k ∧ ∀ o, (W.alloc (.cells #[.int .i64 (d * 86400 + s - x.2.2)] 3)).heap[k]? = some o → o.isCells = true ∧ privOf TS o = false := fun k e => ⟨by have := (own_known (T := TS) (hr.alloc (.cells #[.int .i64 (d * 86400 + s - x.2.2)] 3)) rfl _ e).1; omega, (own_known (hr.alloc _) rfl _ e).2⟩
        exact ⟨(((BodyKeeps.refl _ _ _ _).alloc hBx.size _).grown hgrow (by simp; omega) hgr).setCell _ hBw.size (.inr (known_cells ho2 rfl)),
          set_other (grown_other hgrow (some_of_alloc _ hd) (hne _ s2)) (by omega) _, set_other (grown_other hgrow (some_of_alloc _ hs) (hne _ s3)) (by omega) _,
          ⟨_, set1 ho2 _, by rw [atAll_hit pre hlo hhi]; exact ints_snoc (own_set hown' ho2 (by decide))⟩,
          ((hBx.alloc hBx.size _).grown hgrow (by simp; omega) (fun k e => (hgr k e).1)).setCell (p := ⟨w1.heap.size, 0, none⟩) hBw.size _⟩
      · gi_wp2
        exact ⟨BodyKeeps.refl _ _ _ _, hd, hs, ⟨v, ho, by rw [atAll_miss pre (by omega)]; exact hr⟩, hBx⟩
    · gi_wp2
      exact ⟨BodyKeeps.refl _ _ _ _, hd, hs, ⟨v, ho, by rw [atAll_miss pre (by omega)]; exact hr⟩, hBx⟩
  case done =>
    rintro D W hD ⟨hd, hs, ⟨v, ho, hr⟩, hBx⟩ hK
    have c2 := cell_of_block ho 0
    simp at c2
    gi_wp2
    refine ⟨by simp, .inl ⟨_, _, rfl, run_takeDeferred hK, ?_⟩⟩
    exact ⟨_, results_tmp rfl _ _ _, ⟨v, rfl, own_weaken (ownsRow_putObj hr _ hK rfl) hBw.size⟩, below_put hBx (by simp at hD; have := hBw.size; omega) _⟩
  case stop =>
    rintro D c pre W hD hpre h
    exact h.elim

theorem at_any (off : Int) (sa : Option Addr) (b o len cap : Nat) (ys : Sh) (d s : Int) (w : World) (hm : len ≤ 1000000000) (hS : ShAt w.heap.size w sa b o len ys) :
    Calls Try.prog 19 #[.agg #[.int .i64 off, .slice sa len cap], .int .i64 d, .int .i64 s] w fun e w' => (∃ v, e = .returned v ∧ OwnInts w' w.heap.size v (at' off ys d s)) ∧ Below w.heap.size w w' := by
  rcases Bool.eq_false_or_eq_true (valid off ys && isDy d && inDy s) with h | h
  · simp at h
    exact callsIn_wide.1 (at_good off sa b o len cap ys d s w hm hS h.1.1 h.1.2 h.2)
  · exact at_bad off sa b o len cap ys d s w hm hS h
end Go.Proofs.Ytmnilbaefimalaa
