/- The contract of the function that calendar.Spans collects spans with. Condition: fewer than 10^6 spans are there. -/
import Derived.Test.YtmnilbaefimalaaW5
import Derived.Lib.SmallJoins
namespace Go.Proofs.Ytmnilbaefimalaa
open Go Go.RowKit Go.Shelf Go.Joins

theorem info47 : (Try.prog.info? 47).map (fun i => (i.zero, i.size, i.bytes)) = some (some (.agg #[.int .i64 0, .int .i64 0]), 2, 16) := by kernel_rfl

/-- The slice value v holds the spans zs, in a row of its own from block n on. -/
abbrev OwnSpans (W : World) (n : Nat) (v : Value) (zs : List (Int × Int)) : Prop := W.ownsRow n 47 2 v zs.length (spanCells zs).toList

/-- From W to W' only block X and the given row have turned. -/
structure Two (X : Nat) (row : Option Nat) (W W' : World) : Prop where
  os : W'.os = W.os
  tape : W'.tape = W.tape
  output : W'.output = W.output
  size : W.heap.size ≤ W'.heap.size
  block : ∀ (k : Nat), k < W.heap.size → k ≠ X → some k ≠ row → W'.heap[k]? = W.heap[k]?

theorem Two.refl (X : Nat) (row : Option Nat) (W : World) : Two X row W W := ⟨rfl, rfl, rfl, Nat.le_refl _, fun _ _ _ _ => rfl⟩

theorem spanCells_snoc (zs : List (Int × Int)) (p q : Int) : (spanCells (zs ++ [(p, q)])).toList = (spanCells zs).toList ++ [.int .i64 p, .int .i64 q] := by simp [spanCells]
theorem spanCells_len (zs : List (Int × Int)) : (spanCells zs).toList.length = zs.length * 2 := by rw [Array.length_toList]; exact spanCells_size zs

theorem addSpan_no {out : List (Int × Int)} {a b : Int} (h : b ≤ a) : addSpan out a b = out := by simp [addSpan, h]
theorem addSpan_nil {a b : Int} (h : a < b) : addSpan [] a b = [(a, b)] := by simp [addSpan]; omega
theorem addSpan_join {zs : List (Int × Int)} {p a b : Int} (h : a < b) : addSpan (zs ++ [(p, a)]) a b = zs ++ [(p, b)] := by simp [addSpan]; omega
theorem addSpan_new {zs : List (Int × Int)} {p q a b : Int} (h : a < b) (hq : ¬ q = a) : addSpan (zs ++ [(p, q)]) a b = zs ++ [(p, q)] ++ [(a, b)] := by simp [addSpan, hq]; omega

theorem two_grown {X : Nat} {row : Option Nat} {W W1 : World} {o : Obj} {u : Value} (hg : (W.alloc o).grownBy W1 row) : Two X row W (W1.setCell ⟨X, 0, none⟩ u) :=
  ⟨hg.os, hg.tape, hg.output, by have := hg.size; simp [World.setCell] at this ⊢; omega, fun k hk hkX hkr => by
    rw [Below.heap_setCell _ _ _ _ hkX, hg.block k (by simp; omega) hkr, Below.heap_alloc _ _ _ hk]⟩

/-- The new row lies where the old one lay, or behind all that lay. -/
def Near (W : World) (v v' : Value) : Prop := v'.ownBlock = v.ownBlock ∨ ∃ j, v'.ownBlock = some j ∧ W.heap.size ≤ j

set_option maxHeartbeats 1000000 in
theorem add_any (a b : Int) (X n : Nat) (v : Value) (zs : List (Int × Int)) (W : World) (hz : zs.length ≤ 1000000000) (hX : W.heap[X]? = some (.cells #[v] 48)) (hr : OwnSpans W n v zs) (hn : n ≤ W.heap.size) :
    Calls Try.prog 34 #[.int .i64 a, .int .i64 b, .pointer (some ⟨X, 0, none⟩)] W fun e W' => e = .returned (.tuple #[]) ∧ (∃ v', W'.heap[X]? = some (.cells #[v'] 48) ∧ OwnSpans W' n v' (addSpan zs a b) ∧ Near W v v') ∧ Two X v.ownBlock W W' := by
  have hc := cell_of_block hX 0
  have hf := frozen_of_block hX 0
  simp at hc
  obtain ⟨i0, hi, hy0, hy1, hy2⟩ := info_parts info47
  have hXl : X < W.heap.size := (Array.getElem?_eq_some_iff.1 hX).1
  by_cases hab : b ≤ a
  · go_enter Try.func34, Try.ntmps34
    go_wp2
    refine bodyPost_ret (results_none rfl _ _ _) rfl ?_
    exact ⟨rfl, ⟨v, hX, by rw [addSpan_no hab]; exact hr, .inl rfl⟩, Two.refl _ _ _⟩
  have hab' : a < b := by omega
  have app : ∀ (zs' : List (Int × Int)), addSpan zs a b = zs' → zs' = zs ++ [(a, b)] → ∀ (v' : Value) (w1 : World), w1.ownsRow n 47 2 v' (zs.length + 1) ((spanCells zs).toList ++ [.int .i64 a, .int .i64 b]) → (W.alloc (.cells #[.int .i64 a, .int .i64 b] 47)).grownBy w1 v.ownBlock → (v'.ownBlock = v.ownBlock ∨ v'.ownBlock = some (W.alloc (.cells #[.int .i64 a, .int .i64 b] 47)).heap.size) →
      (∃ v'', (w1.setCell ⟨X, 0, none⟩ v').heap[X]? = some (.cells #[v''] 48) ∧ OwnSpans (w1.setCell ⟨X, 0, none⟩ v') n v'' (addSpan zs a b) ∧ Near W v v'') ∧ Two X v.ownBlock W (w1.setCell ⟨X, 0, none⟩ v') := by
    intro zs' h1 h2 v' w1 hown hg hpl
    have hX1 := grown_other hg (some_of_alloc (.cells #[.int .i64 a, .int .i64 b] 47) hX) (own_other hr hX (by decide))
    refine ⟨⟨v', set1 hX1 _, ?_, hpl.imp id (fun h => ⟨_, h, by simp⟩)⟩, two_grown hg⟩
    rw [h1, h2]
    have := own_set (i := 0) (u := v') hown hX1 (by decide)
    rw [← spanCells_snoc] at this
    simpa [OwnSpans] using this
  have APP := Lib.hid app; clear app
  rcases List.eq_nil_or_concat zs with hzs | ⟨zs', ⟨p, q⟩, hzs⟩
  · subst hzs
    rcases ownsRow_forms hr with ⟨hv, _⟩ | ⟨g, cap, hv⟩
    all_goals
      subst hv
      go_enter Try.func34, Try.ntmps34
      go_wp2_with (at_builtin; refine wpList_append_place _ rfl _ _ 48 rfl n 47 i0 (.agg #[.int .i64 0, .int .i64 0]) 2 16 Try.underlying48 hi hy0 hy1 hy2 rfl (by decide) _ _ _ rfl (hr.alloc _) ⟨W.heap.size, 0, none⟩ 1 1 [.int .i64 a, .int .i64 b] rfl rfl (by decide) (cell_two_new _ _ _ _) (by simp [Value.oneCell']) (by unfold maxLen; simp) (by simp) (by simp; omega) ?_; intro v' w1 hown' hgrow hpl; obtain ⟨g', cap', rfl⟩ := ownsRow_succ hown'; have ho2 := grown_other hgrow (some_of_alloc (.cells #[.int .i64 a, .int .i64 b] 47) hX) (own_other hr hX (by decide)); have c5 := cell_of_block ho2 0; have f5 := frozen_of_block ho2 0; simp at c5)
      go_end0
      exact ⟨rfl, APP.out _ (addSpan_nil hab') rfl _ _ hown' hgrow hpl⟩
  · rw [List.concat_eq_append] at hzs
    subst hzs
    obtain ⟨g, cap, hv⟩ := ownsRow_form hr (by simp)
    subst hv
    have hl : (zs' ++ [(p, q)]).length = zs'.length + 1 := by simp
    have hcell : W.cell? ⟨g, zs'.length * 2 + 1, none⟩ = some (.int .i64 q) := by
      rw [World.ownsRow.cellAt hr _ (by rw [hl]; omega), spanCells_snoc, List.getElem?_append_right (by rw [spanCells_len]; omega), spanCells_len]
      simp
    have hfz := World.ownsRow.frozenAt hr (zs'.length * 2 + 1)
    rw [hl]
    have hr' : W.ownsRow n 47 2 (.slice (some ⟨g, 0, none⟩) (zs'.length + 1) cap) (zs'.length + 1) (spanCells (zs' ++ [(p, q)])).toList := by rw [← hl]; exact hr
    by_cases hq : q = a
    · subst hq
      go_enter Try.func34, Try.ntmps34
      go_wp2
      refine bodyPost_ret (results_none rfl _ _ _) rfl ?_
      obtain ⟨st1, st2⟩ := World.ownsRow.stored hr' (zs'.length * 2 + 1) (.int .i64 b)
      have hXg : X ≠ g := fun e => own_other hr' hX (by decide) (by rw [e]; rfl)
      refine ⟨rfl, ⟨_, set_other hX hXg _, ?_, .inl rfl⟩, rfl, rfl, rfl, by simp [World.setCell], fun k hk hkX hkr => Below.heap_setCell _ _ _ _ (fun e => hkr (by simp [Value.ownBlock] at e ⊢; exact e))⟩
      rw [addSpan_join hab']
      unfold OwnSpans
      have e1 : (spanCells (zs' ++ [(p, b)])).toList = (spanCells (zs' ++ [(p, q)])).toList.set (zs'.length * 2 + 1) (.int .i64 b) := by
        rw [spanCells_snoc, spanCells_snoc, List.set_append_right _ _ (by rw [spanCells_len]; omega), spanCells_len]
        simp
      rw [e1]
      simpa using st1
    · go_enter Try.func34, Try.ntmps34
      go_wp2_with (at_builtin; refine wpList_append_place _ rfl _ _ 48 rfl n 47 i0 (.agg #[.int .i64 0, .int .i64 0]) 2 16 Try.underlying48 hi hy0 hy1 hy2 rfl (by decide) _ _ _ rfl (hr'.alloc _) ⟨W.heap.size, 0, none⟩ 1 1 [.int .i64 a, .int .i64 b] rfl rfl (by decide) (cell_two_new _ _ _ _) (by simp [Value.oneCell']) (by unfold maxLen; omega) (by omega) (by simp; omega) ?_; intro v' w1 hown' hgrow hpl; obtain ⟨g', cap', rfl⟩ := ownsRow_succ hown'; have ho2 := grown_other hgrow (some_of_alloc (.cells #[.int .i64 a, .int .i64 b] 47) hX) (own_other hr' hX (by decide)); have c5 := cell_of_block ho2 0; have f5 := frozen_of_block ho2 0; simp at c5)
      go_end0
      have A := APP.out _ (addSpan_new hab' hq) rfl
      rw [hl] at A
      exact ⟨rfl, A _ _ (by simpa using hown') hgrow hpl⟩
end Go.Proofs.Ytmnilbaefimalaa
