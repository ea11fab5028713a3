/- The contract of calendar.Spans. Conditions: the zone's shifts lie in memory that was there before the call, fewer than 10^9 of them; the span lies from 0 to 10^7 and holds at most 10^6 seconds. -/
import Derived.Test.YtmnilbaefimalaaW6
import Derived.Laws.EntriesVeiled
namespace Go.Proofs.Ytmnilbaefimalaa
open Go Go.RowKit Go.Shelf Go.Joins
attribute [local go_sem] Oper.semAt_some

theorem blk4 (w : World) (o1 o2 o3 o4 : Obj) : ((((w.alloc o1).alloc o2).alloc o3).alloc o4).heap[w.heap.size]? = some o1 ∧ ((((w.alloc o1).alloc o2).alloc o3).alloc o4).heap[w.heap.size + 1]? = some o2 ∧ ((((w.alloc o1).alloc o2).alloc o3).alloc o4).heap[w.heap.size + 2]? = some o3 ∧ ((((w.alloc o1).alloc o2).alloc o3).alloc o4).heap[w.heap.size + 3]? = some o4 :=
  ⟨some_of_alloc _ (blk3 w o1 o2 o3).1, some_of_alloc _ (blk3 w o1 o2 o3).2.1, some_of_alloc _ (blk3 w o1 o2 o3).2.2, by have := heap_at_new (((w.alloc o1).alloc o2).alloc o3) o4; simpa using this⟩
theorem after4 {w w1 : World} {o1 o2 o3 o4 : Obj} (hB : Below ((((w.alloc o1).alloc o2).alloc o3).alloc o4).heap.size ((((w.alloc o1).alloc o2).alloc o3).alloc o4) w1) :
    w1.heap[w.heap.size]? = some o1 ∧ w1.heap[w.heap.size + 1]? = some o2 ∧ w1.heap[w.heap.size + 2]? = some o3 ∧ w1.heap[w.heap.size + 3]? = some o4 ∧ w.heap.size + 4 ≤ w1.heap.size ∧ Below w.heap.size w w1 := by
  have h := blk4 w o1 o2 o3 o4
  have hs : ((((w.alloc o1).alloc o2).alloc o3).alloc o4).heap.size = w.heap.size + 4 := by simp
  rw [hs] at hB
  exact ⟨(hB.block _ (by omega)).trans h.1, (hB.block _ (by omega)).trans h.2.1, (hB.block _ (by omega)).trans h.2.2.1, (hB.block _ (by omega)).trans h.2.2.2, by have := hB.size; omega, (((below2 w o1 o2).alloc (by simp; omega) o3).alloc (by simp; omega) o4).trans (hB.mono (by omega))⟩

/-- The boxes of the call: the span, the window, the function that adds. -/
structure SpBoxes (w w1 : World) (F T f t : Int) (W : World) : Prop where
  span : W.heap[w.heap.size + 1]? = some (.cells #[.int .i64 F, .int .i64 T] 47)
  lo : W.heap[w.heap.size + 2]? = some (.cells #[.int .i64 f] 3)
  hi : W.heap[w.heap.size + 3]? = some (.cells #[.int .i64 t] 3)
  fn : W.heap[w1.heap.size + 1]? = some (.cells #[.func (.func 34) #[] #[.pointer (some ⟨w1.heap.size, 0, none⟩)]] 63)
  below : Below w.heap.size w W
theorem SpBoxes.calm {w w1 A B : World} {F T f t : Int} {R : TypeId → Bool} {n : Nat} (h : SpBoxes w w1 F T f t A) (k : Calm R n A B) (h47 : R 47 = false) (h3 : R 3 = false) (h63 : R 63 = false) (hn : w.heap.size ≤ n) : SpBoxes w w1 F T f t B :=
  ⟨k.cells h.span h47, k.cells h.lo h3, k.cells h.hi h3, k.cells h.fn h63, k.below h.below hn (Nat.le_refl _)⟩

theorem SpBoxes.alloc {w w1 A : World} {F T f t : Int} (h : SpBoxes w w1 F T f t A) (o : Obj) : SpBoxes w w1 F T f t (A.alloc o) :=
  ⟨some_of_alloc _ h.span, some_of_alloc _ h.lo, some_of_alloc _ h.hi, some_of_alloc _ h.fn, h.below.alloc h.below.size _⟩

theorem SpBoxes.two {w w1 A B : World} {F T f t : Int} {row : Option Nat} (h : SpBoxes w w1 F T f t A) (k : Two w1.heap.size row A B) (hr : ∀ j, row = some j → w1.heap.size + 1 ≤ j) (hf : some (w1.heap.size + 1) ≠ row) (hs : w.heap.size + 4 ≤ w1.heap.size) : SpBoxes w w1 F T f t B := by
  have get : ∀ {i : Nat} {o : Obj}, A.heap[i]? = some o → i ≠ w1.heap.size → some i ≠ row → B.heap[i]? = some o := fun hi h1 h2 => (k.block _ (Array.getElem?_eq_some_iff.1 hi).1 h1 h2).trans hi
  have nr : ∀ i, i ≤ w1.heap.size → some i ≠ row := fun i hi e => by have := hr i e.symm; omega
  exact ⟨get h.span (by omega) (nr _ (by omega)), get h.lo (by omega) (nr _ (by omega)), get h.hi (by omega) (nr _ (by omega)), get h.fn (by omega) hf,
    h.below.trans ⟨k.os, k.tape, k.output, k.size, fun i hi => k.block i (by have := h.below.size; omega) (by omega) (nr _ (by omega))⟩⟩

theorem BodyKeeps.two {R : TypeId → Bool} {n₀ B₀ X : Nat} {row : Option Nat} {A B C : World} (h : BodyKeeps R n₀ B₀ A B) (k : Two X row B C) (hX : n₀ ≤ X ∧ ∀ o, B.heap[X]? = some o → o.isCells = true ∧ privOf R o = false) (hn : n₀ ≤ B.heap.size)
    (hr : ∀ j, row = some j → n₀ ≤ j ∧ ∀ o, B.heap[j]? = some o → o.isCells = true ∧ privOf R o = false) : BodyKeeps R n₀ B₀ A C :=
  h.trans ⟨k.size, fun i hi => k.block i (by omega) (by have := hX.1; omega) (fun e => by have := (hr i e.symm).1; omega), fun i o hi ho => by
    have no : ∀ (P : o.isCells = true ∧ privOf R o = false), False := fun hP => by
      rcases ho with ho | ho
      · rw [hP.2] at ho; cases ho
      · rw [hP.1] at ho; cases ho.2
    refine (k.block i (Array.getElem?_eq_some_iff.1 hi).1 (fun e => ?_) (fun e => ?_)).trans hi
    · subst e; exact no (hX.2 o hi)
    · exact no ((hr i e.symm).2 o hi)⟩

theorem addDay_take {A B m : Int} {ws out : List (Int × Int)} {k : Nat} {u v : Int} (hk : ws[k]? = some (u, v)) : addDay A B m (ws.take (k + 1)) out = addSpan (addDay A B m (ws.take k) out) (max A (m + u)) (min B (m + v)) := by
  obtain ⟨hlt, he⟩ := List.getElem?_eq_some_iff.1 hk
  rw [List.take_succ_eq_append_getElem hlt, he]
  simp [addDay]
theorem max_if (a b : Int) : (if a < b then b else a) = max a b := by split <;> omega
theorem min_if (a b : Int) : (if b < a then b else a) = min a b := by split <;> omega

set_option maxRecDepth 100000 in
set_option maxHeartbeats 2000000 in
theorem spans_good (off : Int) (sa : Option Addr) (b o len cap : Nat) (ys : Sh) (F T f t : Int) (w : World) (hm : len ≤ 1000000000) (hS : ShAt w.heap.size w sa b o len ys)
    (hF : 0 ≤ F ∧ F ≤ 10000000) (hT : F < T ∧ T ≤ F + 1000000) (h1 : valid off ys = true) (h2 : inDy f = true) (h3 : inDy t = true) :
    CallsIn Fence.wide 5 Try.prog 24 #[.agg #[.int .i64 off, .slice sa len cap], .agg #[.int .i64 F, .int .i64 T], .int .i64 f, .int .i64 t] w fun e w' => (∃ v, e = .returned v ∧ OwnSpans w' w.heap.size v (spans' off ys F T f t)) ∧ Below w.heap.size w w' := by
  have HL : spans' off ys F T f t = addAll F T (wins f t) (strs 0 off ys) [] := by unfold spans'; rw [h1, h2, h3]; simp [hT.1]
  rw [HL]
  clear HL
  have hv := valid_any off sa b o len cap ys ((((w.alloc (.cells #[.int .i64 off, .slice sa len cap] 24)).alloc (.cells #[.int .i64 F, .int .i64 T] 47)).alloc (.cells #[.int .i64 f] 3)).alloc (.cells #[.int .i64 t] 3)) hm ((hS.low (((((Low.refl _ w).alloc (Nat.le_refl _) _).alloc (Nat.le_refl _) _).alloc (Nat.le_refl _) _).alloc (Nat.le_refl _) _) (Nat.le_refl _)).up (by simp; omega))
  have HV := Lib.hid hv; clear hv
  have HX := Lib.hid (strs_ok h1)
  have HN := Lib.hid (valid_len h1)
  have HS := Lib.hid hS; clear hS
  refine callsIn_of_wp_marks Try.func24 rfl trivial ?_ rfl
  simp only [Try.ntmps24, List.size_toArray, List.length_cons, List.length_nil, Nat.reduceAdd, Nat.reduceSub, Array.replicate_succ, Array.replicate_zero, List.push_toArray, List.append_toArray, List.nil_append, List.cons_append]
  gi_wp2
  refine wpIn_wide.2 (wp_scope_straight (wpIn_wide (n := 5).1 ?_))
  gi_wp2_with fail
  refine ⟨trivial, (callsIn_wide.2 HV.out).mono ?_⟩
  rintro e w1 ⟨rfl, hB⟩
  obtain ⟨hz1, hF1, hf1, ht1, hsz, hBw⟩ := after4 hB
  have c0 := cell_of_block hF1 0
  have c1 := cell_of_block hF1 1
  have c2 := cell_of_block hf1 0
  have c3 := cell_of_block ht1 0
  have z0 := cell_of_block hz1 0
  have z1 := cell_of_block hz1 1
  simp at c0 c1 c2 c3 z0 z1
  have s1 : w.heap.size < w1.heap.size := by omega
  have s2 : w.heap.size + 1 < w1.heap.size := by omega
  have s3 : w.heap.size + 2 < w1.heap.size := by omega
  have s4 : w.heap.size + 3 < w1.heap.size := by omega
  gi_wp2_with (refine ⟨trivial, ?_⟩; first | (gi_at_call 32; refine (callsIn_wide.2 (inDay_any _ _)).mono ?_; rintro e w' ⟨rfl, rfl⟩) | (gi_at_call 26; refine (callsIn_wide.2 (stretches_any _ _ _ rfl _)).mono ?_; rintro e w' ⟨rfl, rfl⟩))
  refine wpIn_label ?_
  gi_wp2_with (refine ⟨trivial, ?_⟩; (gi_at_call 26; refine (callsIn_wide.2 (stretches_any _ _ _ rfl _)).mono ?_; rintro e w' ⟨rfl, rfl⟩))
  have b1 := blk3 w1 (.cells #[.slice none 0 0] 48) (.cells #[.func (.func 34) #[] #[.pointer (some ⟨w1.heap.size, 0, none⟩)]] 63) (.cells #[.int .i64 off, .slice sa len cap] 24)
  have hBW := hBw.trans (((below2 w1 (.cells #[.slice none 0 0] 48) (.cells #[.func (.func 34) #[] #[.pointer (some ⟨w1.heap.size, 0, none⟩)]] 63)).alloc (by simp; omega) (.cells #[.int .i64 off, .slice sa len cap] 24)).mono hBw.size)
  have hsW : (((w1.alloc (.cells #[.slice none 0 0] 48)).alloc (.cells #[.func (.func 34) #[] #[.pointer (some ⟨w1.heap.size, 0, none⟩)]] 63)).alloc (.cells #[.int .i64 off, .slice sa len cap] 24)).heap.size = w1.heap.size + 3 := by simp
  refine wp_range_iter' (m := 3) TS (gf := 35) (lb := #[.pointer (some ⟨w1.heap.size + 1 + 1, 0, none⟩)]) rfl (enters_of Try.func35 (by kernel_rfl) rfl)
    (stretches_iter hm (HS.out.low (low_of_below hBW) (Nat.le_refl _)) hBW.size b1.2.2) (Below.refl _ _) hBW.size (fun _ => rfl)
    (fun pre W => (∃ v, W.heap[w1.heap.size]? = some (.cells #[v] 48) ∧ OwnSpans W (w1.heap.size + 1) v (addPre F T (wins f t) pre)) ∧ SpBoxes w w1 F T f t W ∧ AllAhead T pre)
    (fun c _ W => c = .exit 0 ∧ (∃ v, W.heap[w1.heap.size]? = some (.cells #[v] 48) ∧ OwnSpans W (w1.heap.size + 1) v (addAll F T (wins f t) (strs 0 off ys) [])) ∧ SpBoxes w w1 F T f t W)
    (fun _ A B h k => by obtain ⟨⟨v, hv1, hv2⟩, h2, h3⟩ := h; exact ⟨⟨v, k.cells hv1 rfl, k.ownsRow hv2 rfl⟩, h2.calm k rfl rfl rfl (by rw [hsW]; omega), h3⟩)
    (fun _ _ A B h k => by obtain ⟨h1, ⟨v, hv1, hv2⟩, h2⟩ := h; exact ⟨h1, ⟨v, k.cells hv1 rfl, k.ownsRow hv2 rfl⟩, h2.calm k rfl rfl rfl (by rw [hsW]; omega)⟩)
    ⟨⟨_, b1.1, World.ownsRow_nil _ _ _ _⟩, ⟨some_of_alloc _ (some_of_alloc _ (some_of_alloc _ hF1)), some_of_alloc _ (some_of_alloc _ (some_of_alloc _ hf1)), some_of_alloc _ (some_of_alloc _ (some_of_alloc _ ht1)), b1.2.1, hBW⟩, allAhead_nil T⟩
    ?round ?done ?stop
  case done =>
    rintro D W hD ⟨⟨v, ho, hr⟩, hb, hp⟩ hK
    have c5 := cell_of_block ho 0
    simp at c5
    have HP := Lib.hid (addAll_done (F := F) (ws := wins f t) hp)
    gi_wp2
    refine ⟨by simp, .inl ⟨_, _, rfl, run_takeDeferred hK, ?_⟩⟩
    exact ⟨_, results_tmp rfl _ _ _, ⟨v, rfl, by rw [HP.out]; exact own_weaken (ownsRow_putObj hr _ hK rfl) (by have := hBw.size; omega)⟩, below_put hb.below (by simp at hD; have := hBw.size; omega) _⟩
  case stop =>
    rintro D c pre W hD hpre ⟨rfl, ⟨v, ho, hr⟩, hb⟩ hK
    have c5 := cell_of_block ho 0
    simp at c5
    gi_wp2
    refine ⟨by simp, .inl ⟨_, _, rfl, run_takeDeferred hK, ?_⟩⟩
    exact ⟨_, results_tmp rfl _ _ _, ⟨v, rfl, own_weaken (ownsRow_putObj hr _ hK rfl) (by have := hBw.size; omega)⟩, below_put hb.below (by simp at hD; have := hBw.size; omega) _⟩
  case round =>
    rintro l pre x W hpre ⟨⟨v, ho, hr⟩, hb, hp⟩
    dsimp only [encS]
    gi_wp2
    refine ⟨(BodyKeeps.refl _ _ _ _).alloc hb.below.size _, ?_⟩
    intro l' W2 hcal
    have hX := hcal.cells (heap_at_new W (.cells #[.int .i64 x.1, .int .i64 x.2.1, .int .i64 x.2.2] 57)) rfl
    have ho2 := hcal.cells (some_of_alloc (.cells #[.int .i64 x.1, .int .i64 x.2.1, .int .i64 x.2.2] 57) ho) rfl
    have hr2 := hcal.ownsRow (hr.alloc (.cells #[.int .i64 x.1, .int .i64 x.2.1, .int .i64 x.2.2] 57)) rfl
    have hb2 := (hb.alloc (.cells #[.int .i64 x.1, .int .i64 x.2.1, .int .i64 x.2.2] 57)).calm hcal rfl rfl rfl (by rw [hsW]; omega)
    clear hcal
    obtain ⟨X, hXe⟩ : ∃ X, W.heap.size = X := ⟨_, rfl⟩
    rw [hXe] at hX ⊢
    clear hXe ho hr hb
    have x0 := cell_of_block hX 0
    have x1 := cell_of_block hX 1
    have x2 := cell_of_block hX 2
    have c4 := cell_of_block hb2.span 0
    have c5 := cell_of_block hb2.span 1
    simp at x0 x1 x2 c4 c5
    have hxb := HX.out x (hpre.subset (by simp))
    by_cases hend : T ≤ x.1
    · gi_wp2
      exact ⟨BodyKeeps.refl _ _ _ _, rfl, ⟨v, ho2, by rw [addAll_stop hp hpre hend]; exact hr2⟩, hb2⟩
    have hp2 := allAhead_snoc hp (show x.1 < T by omega)
    gi_wp2
    refine wpIn_round_quiet (by kernel_rfl) (by kernel_rfl) (by kernel_rfl) ?_
    repeat (quiet_step (fail))
    refine wpQuiet_nil ?_
    rintro w' ⟨nq, rfl⟩
    obtain ⟨A, hA⟩ : ∃ A, (if x.1 < F then F else x.1) = A := ⟨_, rfl⟩
    obtain ⟨B, hBe⟩ : ∃ B, (if T < x.2.1 then T else x.2.1) = B := ⟨_, rfl⟩
    rw [hA, hBe]
    have eA : max x.1 F = A := by rw [← hA]; split <;> omega
    have eB : min x.2.1 T = B := by rw [← hBe]; split <;> omega
    clear hA hBe
    obtain ⟨W3, hW3⟩ : ∃ W3, W2.drewN nq = W3 := ⟨_, rfl⟩
    have bk3 : BodyKeeps TS w.heap.size (w1.heap.size + 3) W2 W3 := by rw [← hW3]; exact ⟨Nat.le_refl _, fun _ _ => rfl, fun _ _ h _ => h⟩
    have hX3 : W3.heap[X]? = some (.cells #[.int .i64 x.1, .int .i64 x.2.1, .int .i64 x.2.2] 57) := by rw [← hW3]; exact hX
    have ho3 : W3.heap[w1.heap.size]? = some (.cells #[v] 48) := by rw [← hW3]; exact ho2
    have hr3 : OwnSpans W3 (w1.heap.size + 1) v (addPre F T (wins f t) pre) := by rw [← hW3]; exact ⟨hr2.1, hr2.2⟩
    have hb3 : SpBoxes w w1 F T f t W3 := by rw [← hW3]; exact ⟨hb2.span, hb2.lo, hb2.hi, hb2.fn, hb2.below.trans ⟨rfl, rfl, rfl, Nat.le_refl _, fun _ _ => rfl⟩⟩
    rw [hW3]
    clear hW3
    have y2 := cell_of_block hX3 2
    simp at y2
    have hAb : 0 ≤ A ∧ A ≤ 10000000000 := by omega
    have hBb : 0 ≤ B ∧ B ≤ 11000000 ∧ B ≤ A + 1000000 := by omega
    by_cases hAB : B ≤ A
    · gi_wp2
      refine ⟨by first | exact bk3 | (rw [hsW]; exact bk3), ⟨v, ho3, ?_⟩, hb3, hp2⟩
      rw [addPre_snoc]
      unfold addStretch
      rw [eA, eB, if_pos hAB]
      exact hr3
    have hout : addPre F T (wins f t) (pre ++ [x]) = addDays A B ((A + x.2.2) / 86400 * 86400 - x.2.2) (wins f t) (addPre F T (wins f t) pre) (nDays ((A + x.2.2) / 86400 * 86400 - x.2.2) B) := by
      rw [addPre_snoc]
      unfold addStretch
      rw [eA, eB, if_neg hAB]
    have hol := addPre_length (F := F) (T := T) (wins f t) (wins_length f t) (by omega) pre
    have hpl : pre.length ≤ 41 := by
      have h3 := hpre.length_le
      have h4 := strs_length ys 0 off
      have h5 := HN.out
      simp at h3; omega
    obtain ⟨out, hout'⟩ : ∃ out, addPre F T (wins f t) pre = out := ⟨_, rfl⟩
    rw [hout'] at hout hol hr3
    clear hout'
    have HO := Lib.hid hout; clear hout
    have hwl := wins_length f t
    gi_wp2_with (refine ⟨trivial, ?_⟩; gi_at_call 27; refine (callsIn_wide.2 (divide_any _ (by omega) (by omega) _)).mono ?_; rintro e w' ⟨rfl, rfl⟩)
    obtain ⟨m0, hm0⟩ : ∃ m0, (A + x.2.2) / 86400 * 86400 - x.2.2 = m0 := ⟨_, rfl⟩
    rw [hm0]
    have hm0b : m0 ≤ A ∧ A < m0 + 86400 := by omega
    have HM := Lib.hid hm0; clear hm0
    gi_loopw [16] (fun p wr => ∃ (j : Nat) (v : Value), p = .int .i64 (m0 + 86400 * (j : Int)) ∧ j ≤ nDays m0 B ∧ wr.heap[w1.heap.size]? = some (.cells #[v] 48) ∧ OwnSpans wr (w1.heap.size + 1) v (addDays A B m0 (wins f t) out j) ∧ SpBoxes w w1 F T f t wr ∧ BodyKeeps TS w.heap.size (w1.heap.size + 3) W2 wr)
      (fun p _ => nDays m0 B - ((intOf p - m0) / 86400).toNat)
    case atStart => exact ⟨0, v, by simp, Nat.zero_le _, ho3, hr3, hb3, bk3⟩
    case round =>
      obtain ⟨j, vj, rfl, hj, hoj, hrj, hbj, bkj⟩ := hrel
      have hnd := nDays_le (m := m0) (B := B) (by omega)
      have hjl := addDays_length A B m0 (wins f t) out j
      have hjm := Nat.mul_le_mul hj hwl
      have hjm2 : (nDays m0 B) * 2 ≤ 28 := by omega
      have hiff := nDays_iff hj
      by_cases hlt : j < nDays m0 B
      · have hmb : m0 + 86400 * (j : Int) < B := hiff.2 hlt
        have c6 := cell_of_block hbj.lo 0
        have c7 := cell_of_block hbj.hi 0
        simp at c6 c7
        gi_wp2_with (refine ⟨trivial, ?_⟩; gi_at_call 33; refine (callsIn_wide.2 (windows_any _ _ _)).mono ?_; rintro e w' ⟨rfl, rfl⟩)
        obtain ⟨m1, hm1⟩ : ∃ m1, m0 + 86400 * (j : Int) = m1 := ⟨_, rfl⟩
        rw [hm1] at hmb ⊢
        have hm1b : -100000 ≤ m1 ∧ m1 ≤ 11000000 := by omega
        obtain ⟨oj, hoje⟩ : ∃ oj, addDays A B m0 (wins f t) out j = oj := ⟨_, rfl⟩
        rw [hoje] at hrj hjl
        have HJ := Lib.hid (show addDays A B m0 (wins f t) out (j + 1) = addDay A B m1 (wins f t) oj by rw [← hm1, ← hoje]; rfl)
        have HM1 := Lib.hid hm1
        clear hoje hm1
        obtain ⟨ws, hws⟩ : ∃ ws, wins f t = ws := ⟨_, rfl⟩
        have HWS := Lib.hid hws
        rw [hws] at hjl hjm hwl ⊢
        clear hws
        obtain ⟨wo, rfl⟩ : ∃ wo : World, wo = wr := ⟨_, rfl⟩
        have hYl : w1.heap.size + 1 < wo.heap.size := (Array.getElem?_eq_some_iff.1 hbj.fn).1
        gi_loopw [91] (fun p wq => ∃ (k : Nat) (v' : Value), p = .int .i64 (k : Int) ∧ k ≤ ws.length ∧ wq.heap[w1.heap.size]? = some (.cells #[v'] 48) ∧ OwnSpans wq (w1.heap.size + 1) v' (addDay A B m1 (ws.take k) oj) ∧ SpBoxes w w1 F T f t wq ∧ BodyKeeps TS w.heap.size (w1.heap.size + 3) W2 wq ∧ wq.heap[wo.heap.size]? = some (.cells (spanCells ws) 47) ∧ some wo.heap.size ≠ v'.ownBlock)
          (fun p _ => ws.length - (intOf p).toNat)
        case atStart =>
          refine ⟨0, vj, rfl, Nat.zero_le _, some_of_alloc _ hoj, by simpa [addDay] using hrj.alloc _, hbj.alloc _, bkj.alloc hbj.below.size _, heap_at_new _ _, fun e => ?_⟩
          have := (World.ownsRow.lt hrj _ e.symm).2
          omega
        case round =>
          obtain ⟨k, v', rfl, hk, hoq, hrq, hbq, bkq, hYq, hYv⟩ := hrel
          have hdl := addDay_length A B m1 (ws.take k) oj
          have htk : (ws.take k).length ≤ 2 := by simp; omega
          by_cases hkl : k < ws.length
          · obtain ⟨p, q, hpq⟩ : ∃ p q, ws[k]? = some (p, q) := ⟨_, _, List.getElem?_eq_getElem hkl⟩
            have g0 := (cell_of_block hYq (k * 2)).trans (spanCells_get ws k p q hpq).1
            have g1 := (cell_of_block hYq (k * 2 + 1)).trans (spanCells_get ws k p q hpq).2
            have c8 := cell_of_block hbq.fn 0
            simp at c8
            have hpqb : 0 ≤ p ∧ p ≤ 86400 ∧ 0 ≤ q ∧ q ≤ 86400 := wins_bound (by rw [HWS.out]; exact hpq) h2 h3
            have HPQ := Lib.hid hpq; clear hpq
            have hqs : w1.heap.size + 1 < wr.heap.size := (Array.getElem?_eq_some_iff.1 hbq.fn).1
            have hYs : wo.heap.size < wr.heap.size := (Array.getElem?_eq_some_iff.1 hYq).1
            have hoa := some_of_alloc (.cells #[.int .i64 p, .int .i64 q] 47) hoq
            have hra := hrq.alloc (.cells #[.int .i64 p, .int .i64 q] 47)
            gi_wp2_with (refine ⟨trivial, ?_⟩; gi_at_call 34; refine (callsIn_wide.2 (add_any _ _ w1.heap.size (w1.heap.size + 1) v' _ _ (by omega) hoa hra (by simp; omega))).mono ?_; rintro e wn ⟨rfl, ⟨v'', hX'', hr'', hnear⟩, htwo⟩)
            have hkn := own_known (T := TS) hra rfl
            go_roundw
            case rel =>
              refine ⟨k + 1, v'', by go_num, by omega, hX'', ?_, (hbq.alloc _).two htwo (fun i e => (hkn i e).1) (own_other hra (some_of_alloc _ hbq.fn) (by decide)) hsz, (bkq.alloc hbq.below.size _).two htwo ⟨hBw.size, known_cells hoa rfl⟩ (by simp; have := hbq.below.size; omega) (fun i e => ⟨by have := (hkn i e).1; have := hBw.size; omega, (hkn i e).2⟩), (htwo.block _ (by simp; omega) (by omega) hYv).trans (some_of_alloc _ hYq), ?_⟩
              · rw [addDay_take HPQ.out, ← max_if, ← min_if]
                exact hr''
              · rcases hnear with h | ⟨i, h, hi⟩
                · rw [h]; exact hYv
                · rw [h]; intro e; injection e with e; simp at hi; omega
            case measure => simp [intOf]; omega
          · gi_wp2
            have hkw : ws.take k = ws := List.take_of_length_le (by omega)
            go_roundw
            case rel =>
              refine ⟨j + 1, v', ?_, by omega, hoq, ?_, hbq, bkq⟩
              · have := HM1.out
                rw [← this]; congr 1; omega
              · rw [HJ.out, HWS.out, ← hkw]
                exact hrq
            case measure =>
              have := HM1.out
              simp only [intOf]
              omega
      · have hmb : ¬ m0 + 86400 * (j : Int) < B := fun h => hlt (hiff.1 h)
        gi_wp2
        obtain rfl : j = nDays m0 B := by omega
        exact ⟨bkj, ⟨vj, hoj, by rw [HO.out, HM.out]; exact hrj⟩, hbj, hp2⟩

set_option maxHeartbeats 1000000 in
theorem spans_bad (off : Int) (sa : Option Addr) (b o len cap : Nat) (ys : Sh) (F T f t : Int) (w : World) (hm : len ≤ 1000000000) (hS : ShAt w.heap.size w sa b o len ys)
    (hT : T ≤ F) (h1 : valid off ys = true) (h2 : inDy f = true) (h3 : inDy t = true) :
    Calls Try.prog 24 #[.agg #[.int .i64 off, .slice sa len cap], .agg #[.int .i64 F, .int .i64 T], .int .i64 f, .int .i64 t] w fun e w' => (∃ v, e = .returned v ∧ OwnSpans w' w.heap.size v (spans' off ys F T f t)) ∧ Below w.heap.size w w' := by
  have HL : spans' off ys F T f t = [] := by unfold spans'; rw [h1, h2, h3]; simp; omega
  rw [HL]
  clear HL
  have hv := valid_any off sa b o len cap ys ((((w.alloc (.cells #[.int .i64 off, .slice sa len cap] 24)).alloc (.cells #[.int .i64 F, .int .i64 T] 47)).alloc (.cells #[.int .i64 f] 3)).alloc (.cells #[.int .i64 t] 3)) hm ((hS.low (((((Low.refl _ w).alloc (Nat.le_refl _) _).alloc (Nat.le_refl _) _).alloc (Nat.le_refl _) _).alloc (Nat.le_refl _) _) (Nat.le_refl _)).up (by simp; omega))
  have HV := Lib.hid hv; clear hv
  have HS := Lib.hid hS; clear hS
  go_enter Try.func24, Try.ntmps24
  go_wp2
  refine wp_scope_straight ?_
  go_wp2_with fail
  refine HV.out.mono ?_
  rintro e w1 ⟨rfl, hB⟩
  obtain ⟨hz1, hF1, hf1, ht1, hsz, hBw⟩ := after4 hB
  have c0 := cell_of_block hF1 0
  have c1 := cell_of_block hF1 1
  have c2 := cell_of_block hf1 0
  have c3 := cell_of_block ht1 0
  simp at c0 c1 c2 c3
  go_wp2_with (go_at_call 32; refine (inDay_any _ _).mono ?_; rintro e w' ⟨rfl, rfl⟩)
  try rw [Exit.noGoto_ret]
  go_ret
  exact ⟨⟨_, rfl, World.ownsRow_nil _ _ _ _⟩, hBw⟩

/-- Spans of a valid zone, a window of seconds of the day. -/
theorem spans_any (off : Int) (sa : Option Addr) (b o len cap : Nat) (ys : Sh) (F T f t : Int) (w : World) (hm : len ≤ 1000000000) (hS : ShAt w.heap.size w sa b o len ys)
    (hF : 0 ≤ F ∧ F ≤ 10000000) (hT : T ≤ F + 1000000) (h1 : valid off ys = true) (h2 : inDy f = true) (h3 : inDy t = true) :
    Calls Try.prog 24 #[.agg #[.int .i64 off, .slice sa len cap], .agg #[.int .i64 F, .int .i64 T], .int .i64 f, .int .i64 t] w fun e w' => (∃ v, e = .returned v ∧ OwnSpans w' w.heap.size v (spans' off ys F T f t)) ∧ Below w.heap.size w w' := by
  by_cases h : F < T
  · exact callsIn_wide.1 (spans_good off sa b o len cap ys F T f t w hm hS hF ⟨h, hT⟩ h1 h2 h3)
  · exact spans_bad off sa b o len cap ys F T f t w hm hS (by omega) h1 h2 h3
end Go.Proofs.Ytmnilbaefimalaa
