/- The statement 'for x := range seq' over an iterator that keeps state in blocks of its own: a rule for the caller, and what the iterator owes. Conditions: the iterator's own blocks hold elements of the types T, and the caller's invariant speaks of other blocks. -/
import Derived.RangeFuncNested
import Derived.RangeFuncBound
import Derived.RangeFuncCalls
import Derived.RangeFuncLeaves
import Derived.Shelf.Abstract
import Derived.Shelf.RegionOpen
import Derived.WalkKit
import Derived.OwnWalkIn
import Derived.TacticsInMore
import Derived.LoopNIn
import Derived.LoopIn
import Derived.WalkSmall
import Derived.Lib.Hide
import Derived.BigQuiet
import Derived.Deep.QuietTactic
import Derived.Maps.AppendAt
namespace Go.Proofs.Ytmnilbaefimalaa
open Go Go.RowKit Go.Shelf

/-- A block of cells of one of the types T. -/
def privOf (T : TypeId → Bool) : Obj → Bool
  | .cells _ t _ => T t
  | _ => false

/-- From A to B only blocks from n on that are no cells or are of the types T have turned. -/
structure Calm (T : TypeId → Bool) (n : Nat) (A B : World) : Prop where
  os : B.os = A.os
  tape : B.tape = A.tape
  output : B.output = A.output
  size : A.heap.size ≤ B.heap.size
  block : ∀ (k : Nat) (o : Obj), A.heap[k]? = some o → (k < n ∨ (o.isCells = true ∧ privOf T o = false)) → B.heap[k]? = some o

/-- The iterator's steps: only blocks of the types T, from n on, have turned. -/
structure Turn (T : TypeId → Bool) (n : Nat) (A B : World) : Prop where
  os : B.os = A.os
  tape : B.tape = A.tape
  output : B.output = A.output
  size : A.heap.size ≤ B.heap.size
  block : ∀ (k : Nat) (o : Obj), A.heap[k]? = some o → (k < n ∨ privOf T o = false) → B.heap[k]? = some o

theorem Turn.calm {T : TypeId → Bool} {n m : Nat} {A B : World} (h : Turn T n A B) (hm : m ≤ n) : Calm T m A B :=
  ⟨h.os, h.tape, h.output, h.size, fun k o hk hc => h.block k o hk (by rcases hc with h | h; exact .inl (by omega); exact .inr h.2)⟩

theorem Turn.refl (T : TypeId → Bool) (n : Nat) (A : World) : Turn T n A A := ⟨rfl, rfl, rfl, Nat.le_refl _, fun _ _ h _ => h⟩

theorem some_of_alloc {W : World} (o : Obj) {k : Nat} {o' : Obj} (h : W.heap[k]? = some o') : (W.alloc o).heap[k]? = some o' :=
  (Below.heap_alloc W o k (Array.getElem?_eq_some_iff.1 h).1).trans h

theorem Turn.trans {T : TypeId → Bool} {n : Nat} {A B C : World} (h : Turn T n A B) (k : Turn T n B C) : Turn T n A C :=
  ⟨k.os.trans h.os, k.tape.trans h.tape, k.output.trans h.output, Nat.le_trans h.size k.size, fun i o hi ho => k.block i o (h.block i o hi ho) ho⟩

theorem Turn.alloc {T : TypeId → Bool} {n : Nat} {A B : World} (h : Turn T n A B) (o : Obj) : Turn T n A (B.alloc o) :=
  h.trans ⟨rfl, rfl, rfl, by simp, fun _ _ hk _ => some_of_alloc o hk⟩

theorem Turn.drew {T : TypeId → Bool} {n : Nat} {A B : World} (h : Turn T n A B) : Turn T n A B.drew := ⟨h.os, h.tape, h.output, h.size, h.block⟩

theorem Turn.setCell {T : TypeId → Bool} {n : Nat} {A B : World} (h : Turn T n A B) {p : Addr} (v : Value) (hn : n ≤ p.block) (hp : ∀ o, B.heap[p.block]? = some o → privOf T o = true) : Turn T n A (B.setCell p v) :=
  h.trans ⟨rfl, rfl, rfl, by simp [World.setCell], fun k o hk ho => by
    by_cases e : k = p.block
    · subst e
      rcases ho with ho | ho
      · omega
      · rw [hp o hk] at ho; cases ho
    · exact (Below.heap_setCell B p v k e).trans hk⟩

/-- The world W1 at a call of the iterator's body's round keeps: what lay below n₀, and all blocks of the types T. -/
structure Keeps (T : TypeId → Bool) (n₀ : Nat) (A B : World) : Prop where
  size : A.heap.size ≤ B.heap.size
  low : ∀ k, k < n₀ → B.heap[k]? = A.heap[k]?
  priv : ∀ (k : Nat) (o : Obj), A.heap[k]? = some o → privOf T o = true → B.heap[k]? = some o

theorem Keeps.refl (T : TypeId → Bool) (n₀ : Nat) (A : World) : Keeps T n₀ A A := ⟨Nat.le_refl _, fun _ _ => rfl, fun _ _ h _ => h⟩
theorem Keeps.trans {T : TypeId → Bool} {n₀ : Nat} {A B C : World} (h : Keeps T n₀ A B) (k : Keeps T n₀ B C) : Keeps T n₀ A C :=
  ⟨Nat.le_trans h.size k.size, fun i hi => (k.low i hi).trans (h.low i hi), fun i o hi ho => k.priv i o (h.priv i o hi ho) ho⟩

/-- What a round's body keeps: 'Keeps', and whatever is no cells and lies from B₀ on. -/
structure BodyKeeps (T : TypeId → Bool) (n₀ B₀ : Nat) (A B : World) : Prop where
  size : A.heap.size ≤ B.heap.size
  low : ∀ k, k < n₀ → B.heap[k]? = A.heap[k]?
  same : ∀ (k : Nat) (o : Obj), A.heap[k]? = some o → (privOf T o = true ∨ (B₀ ≤ k ∧ o.isCells = false)) → B.heap[k]? = some o

theorem BodyKeeps.refl (T : TypeId → Bool) (n₀ B₀ : Nat) (A : World) : BodyKeeps T n₀ B₀ A A := ⟨Nat.le_refl _, fun _ _ => rfl, fun _ _ h _ => h⟩
theorem BodyKeeps.trans {T : TypeId → Bool} {n₀ B₀ : Nat} {A B C : World} (h : BodyKeeps T n₀ B₀ A B) (k : BodyKeeps T n₀ B₀ B C) : BodyKeeps T n₀ B₀ A C :=
  ⟨Nat.le_trans h.size k.size, fun i hi => (k.low i hi).trans (h.low i hi), fun i o hi ho => k.same i o (h.same i o hi ho) ho⟩
theorem BodyKeeps.keeps {T : TypeId → Bool} {n₀ B₀ : Nat} {A B : World} (h : BodyKeeps T n₀ B₀ A B) : Keeps T n₀ A B := ⟨h.size, h.low, fun k o hk ho => h.same k o hk (.inl ho)⟩
theorem BodyKeeps.alloc {T : TypeId → Bool} {n₀ B₀ : Nat} {A B : World} (h : BodyKeeps T n₀ B₀ A B) (hn : n₀ ≤ B.heap.size) (o : Obj) : BodyKeeps T n₀ B₀ A (B.alloc o) :=
  h.trans ⟨by simp, fun k hk => Below.heap_alloc _ _ _ (by omega), fun _ _ hk _ => some_of_alloc o hk⟩
theorem BodyKeeps.drew {T : TypeId → Bool} {n₀ B₀ : Nat} {A B : World} (h : BodyKeeps T n₀ B₀ A B) : BodyKeeps T n₀ B₀ A B.drew := ⟨h.size, h.low, h.same⟩
/-- A store into a block of cells of another type, or into a block that came after A. -/
theorem BodyKeeps.setCell {T : TypeId → Bool} {n₀ B₀ : Nat} {A B : World} (h : BodyKeeps T n₀ B₀ A B) {p : Addr} (v : Value) (hn : n₀ ≤ p.block)
    (hp : A.heap.size ≤ p.block ∨ ∀ o, B.heap[p.block]? = some o → o.isCells = true ∧ privOf T o = false) : BodyKeeps T n₀ B₀ A (B.setCell p v) :=
  ⟨by have := h.size; simpa [World.setCell] using this, fun k hk => (Below.heap_setCell _ _ _ _ (by omega)).trans (h.low k hk), fun k o hk ho => by
    have hB := h.same k o hk ho
    by_cases e : k = p.block
    · subst e
      rcases hp with hp | hp
      · have := (Array.getElem?_eq_some_iff.1 hk).1; omega
      · obtain ⟨h1, h2⟩ := hp o hB
        rcases ho with ho | ho
        · rw [h2] at ho; cases ho
        · rw [h1] at ho; cases ho.2
    · exact (Below.heap_setCell B p v k e).trans hB⟩
theorem BodyKeeps.grown {T : TypeId → Bool} {n₀ B₀ : Nat} {A B C : World} {row : Option Nat} (h : BodyKeeps T n₀ B₀ A B) (hg : B.grownBy C row) (hn₀ : n₀ ≤ B.heap.size)
    (hr : ∀ k, row = some k → n₀ ≤ k ∧ ∀ o, B.heap[k]? = some o → o.isCells = true ∧ privOf T o = false) : BodyKeeps T n₀ B₀ A C :=
  h.trans ⟨hg.size, fun k hk => hg.block k (by omega) (fun e => by have := (hr k e.symm).1; omega), fun k o hk ho => by
    refine (hg.block k (Array.getElem?_eq_some_iff.1 hk).1 (fun e => ?_)).trans hk
    obtain ⟨h1, h2⟩ := (hr k e.symm).2 o hk
    rcases ho with ho | ho
    · rw [h2] at ho; cases ho
    · rw [h1] at ho; cases ho.2⟩
theorem BodyKeeps.below {T : TypeId → Bool} {n₀ B₀ : Nat} {A B C : World} (h : BodyKeeps T n₀ B₀ A B) (hb : Below B.heap.size B C) (hn₀ : n₀ ≤ B.heap.size) : BodyKeeps T n₀ B₀ A C :=
  h.trans ⟨hb.size, fun k hk => hb.block k (by omega), fun k _ hk _ => (hb.block k (Array.getElem?_eq_some_iff.1 hk).1).trans hk⟩

/-- What an iterator owes: whatever loop calls it, with whatever invariant that abides the iterator's steps. -/
def Iter {α : Type} (P : Program) (g : Nat) (lb : Array Value) (encs : α → Array Value) (T : TypeId → Bool) (n₀ : Nat) (xs : List α) (w : World) : Prop :=
  ∀ (l m : Nat) (J Jx : List α → World → Prop) (W : World), Below w.heap.size w W →
    (∀ s A B, J s A → Turn T W.heap.size A B → J s B) → (∀ s A B, Jx s A → Turn T W.heap.size A B → Jx s B) →
    (∀ pre x W1, pre ++ [x] <+: xs → J pre W1 → YieldAt Fence.wide m P l (encs x) W1 fun e W' =>
      (e = .returned (.bool true) ∧ J (pre ++ [x]) W' ∧ Keeps T n₀ W1 W') ∨ (e = .returned (.bool false) ∧ Jx (pre ++ [x]) W')) →
    J [] W →
    CallsIn Fence.wide (m + 1) P g (#[.func (.yield l) #[] #[]] ++ lb) W fun e W' => (∃ v, e = .returned v) ∧ (J xs W' ∨ (∃ pre, pre <+: xs ∧ Jx pre W'))

/-- How a round's body may be left. -/
def iterPost {α : Type} (T : TypeId → Bool) (n₀ B₀ : Nat) (I : List α → World → Prop) (Ix : Code → List α → World → Prop) (xs : List α) (W : World) : Exit → Act → World → Prop
  | .normal, _, W' => BodyKeeps T n₀ B₀ W W' ∧ I xs W'
  | .ret, _, W' => BodyKeeps T n₀ B₀ W W' ∧ Ix .ret xs W'
  | .exit id, _, W' => BodyKeeps T n₀ B₀ W W' ∧ Ix (.exit id) xs W'
  | .goto t, _, W' => BodyKeeps T n₀ B₀ W W' ∧ Ix (.goto t) xs W'
  | _, _, _ => False

theorem calm_putObj (T : TypeId → Bool) {n l : Nat} {W : World} {o : Obj} (o' : Obj) (hn : n ≤ l) (hl : W.heap[l]? = some o) (ho : o.isCells = false) : Calm T n W (W.putObj l o') :=
  ⟨rfl, rfl, rfl, by simp, fun k u hk hc => by
    by_cases e : k = l
    · subst e
      rw [hl] at hk; cases hk
      rcases hc with hc | hc
      · omega
      · rw [ho] at hc; cases hc.1
    · exact (World.putObj_heap_other (by omega)).trans hk⟩

theorem keeps_putObj (T : TypeId → Bool) {n₀ l : Nat} {W : World} {o : Obj} (o' : Obj) (hn : n₀ ≤ l) (hl : W.heap[l]? = some o) (ho : o.isCells = false) : Keeps T n₀ W (W.putObj l o') :=
  ⟨by simp, fun k hk => World.putObj_heap_other (by omega), fun k u hk hc => by
    by_cases e : k = l
    · subst e
      rw [hl] at hk; cases hk
      cases o <;> simp_all [privOf, Obj.isCells]
    · exact (World.putObj_heap_other (by omega)).trans hk⟩

theorem calm_alloc (T : TypeId → Bool) (n : Nat) (W : World) (o : Obj) : Calm T n W (W.alloc o) := ⟨rfl, rfl, rfl, by simp, fun _ _ hk _ => some_of_alloc o hk⟩

variable {P : Program}

/-- The rule for the caller. -/
theorem wp_range_iter {α : Type} {g : Operand} {ps : Array Tmp} {assign body : Code} {Q : Exit → Act → World → Prop} {a : Act} {w : World} {m : Nat}
    (T : TypeId → Bool) {gf : Nat} {lb : Array Value} (hg : a.eval g = .func (.func gf) #[] lb) (eg : ∀ args w, (callFunc gf args).run P w = .ok (.enter gf args) w)
    {encs : α → Array Value} {n₀ : Nat} {xs : List α} {w0 : World} (hit : Iter P gf lb encs T n₀ xs w0) (hb0 : Below w0.heap.size w0 w) (hn₀ : n₀ ≤ w.heap.size) (hps : ∀ x, (encs x).size = ps.size)
    (I : List α → World → Prop) (Ix : Code → List α → World → Prop) (hI : ∀ s A B, I s A → Calm T w.heap.size A B → I s B) (hIx : ∀ c s A B, Ix c s A → Calm T w.heap.size A B → Ix c s B) (h0 : I [] w)
    (Ax : List α → α → Act → World → Prop) (hAx : ∀ pre x a' A B, Ax pre x a' A → Calm (fun _ => false) w.heap.size A B → Ax pre x a' B)
    (hassign : ∀ (l : Nat) (pre : List α) (x : α) (W : World), pre ++ [x] <+: xs → I pre W →
      assign.wpIn (Fence.wide.inRound l) m P (Exit.then (fun a' W' => BodyKeeps T n₀ w.heap.size W W' ∧ Ax pre x a' W') (fun _ _ _ => False)) { tmps := (ps.zip (encs x)).foldl (fun t (p, v) => t.setIfInBounds p v) a.tmps, defers := [] } W)
    (hbody : ∀ (l : Nat) (pre : List α) (x : α) (a' : Act) (W : World), pre ++ [x] <+: xs → Ax pre x a' W → body.wpIn (Fence.wide.inRound l) m P (iterPost T n₀ w.heap.size I Ix (pre ++ [x]) W) a' W)
    (hdone : ∀ (D : Nat) (W : World), w.heap.size ≤ D → I xs W → W.heap[D]? = some (.deferred (some [])) → Q .normal { a with defers := { target := .collected D, args := #[] } :: a.defers } W)
    (hstop : ∀ (D : Nat) (c : Code) (pre : List α) (W : World), w.heap.size ≤ D → pre <+: xs → Ix c pre W → W.heap[D]? = some (.deferred (some [])) → c.wpIn Fence.wide (m + 2) P Q { a with defers := { target := .collected D, args := #[] } :: a.defers } W) :
    (Code.rangeFunc g ps assign body).wpIn Fence.wide (m + 2) P Q a w := by
  refine wpIn_rangeFunc ?_
  intro fn hfn
  obtain ⟨rec, hrec⟩ : ∃ rec : LoopState → Option Code → Loop, rec = fun st pe => { state := st, pending := pe, fn, tmps := a.tmps, params := ps, assign, body, defers := w.heap.size } := ⟨_, rfl⟩
  obtain ⟨W1, hW1⟩ : ∃ W1, (w.alloc (.deferred (some []))).alloc (.loop (rec .ready none)) = W1 := ⟨_, rfl⟩
  have hL1 : W1.heap[w.heap.size + 1]? = some (.loop (rec .ready none)) := by
    rw [← hW1]; have := World.alloc_heap_new (w.alloc (.deferred (some []))) (.loop (rec .ready none)); rwa [World.size_alloc] at this
  have hK1 : W1.heap[w.heap.size]? = some (.deferred (some [])) := by
    rw [← hW1]; exact some_of_alloc _ (World.alloc_heap_new w _)
  have hI1 : I [] W1 := by rw [← hW1]; exact hI _ _ _ (hI _ _ _ h0 (calm_alloc _ _ _ _)) (calm_alloc _ _ _ _)
  have hb1 : Below w0.heap.size w0 W1 := by
    rw [← hW1]; exact hb0.trans ((((Below.refl _ w).alloc (Nat.le_refl _) _).alloc (by simp) _).mono hb0.size)
  have hsz : w.heap.size + 1 < W1.heap.size := (Array.getElem?_eq_some_iff.1 hL1).1
  refine ⟨w.heap.size + 1, [{ target := .collected w.heap.size, args := #[] }], W1, { target := .fn (.func gf) lb, args := #[.func (.yield (w.heap.size + 1)) #[] #[]] }, W1, gf,
    #[.func (.yield (w.heap.size + 1)) #[] #[]] ++ lb, W1, ?_, ?_, fun _ _ => trivial, ?_, fun _ => by omega, ?_⟩
  · rw [← hW1, hrec]; exact run_enterLoop_outer _ _ _ _ _
  · simp only [resolve, hg]
    simp [go_sem]
  · simp [invoke, go_sem, eg]
  refine (hit (w.heap.size + 1) m
    (fun pre W => I pre W ∧ W.heap[w.heap.size + 1]? = some (.loop (rec .ready none)) ∧ W.heap[w.heap.size]? = some (.deferred (some [])))
    (fun pre W => ∃ c, Ix c pre W ∧ W.heap[w.heap.size + 1]? = some (.loop (rec .done (some c))) ∧ W.heap[w.heap.size]? = some (.deferred (some [])))
    W1 hb1
    (fun s A B hs ht => ⟨hI s A B hs.1 (ht.calm (by omega)), ht.block _ _ hs.2.1 (.inr rfl), ht.block _ _ hs.2.2 (.inr rfl)⟩)
    (fun s A B hs ht => by obtain ⟨c, h1, h2, h3⟩ := hs; exact ⟨c, hIx c s A B h1 (ht.calm (by omega)), ht.block _ _ h2 (.inr rfl), ht.block _ _ h3 (.inr rfl)⟩)
    ?_ ⟨hI1, hL1, hK1⟩).mono ?_
  · -- one round
    rintro pre x W hpre ⟨hi, hl, hk⟩
    have hy := run_yield (P := P) (args := encs x) hl (by rw [hrec]; exact hps x)
    rw [hrec] at hy
    refine ⟨fn, _, assign, body, hy, roundIn_of_wpIn hfn (wpIn_mono (hassign _ pre x W hpre hi) ?_)⟩
    clear hy
    intro e a' Wa he
    cases e
    case normal =>
      obtain ⟨hka, hax⟩ := he
      have hla := hka.same _ _ hl (.inr ⟨by omega, rfl⟩)
      have hda := hka.same _ _ hk (.inr ⟨Nat.le_refl _, rfl⟩)
      refine ⟨_, run_beginRound hla (by rw [hrec]), ?_⟩
      have hlt : w.heap.size + 1 < Wa.heap.size := (Array.getElem?_eq_some_iff.1 hla).1
      obtain ⟨W2, hW2⟩ : ∃ W2, Wa.putObj (w.heap.size + 1) (.loop { rec .ready none with state := .busy }) = W2 := ⟨_, rfl⟩
      have hcal : Calm (fun _ => false) w.heap.size Wa W2 := by rw [← hW2]; exact calm_putObj _ _ (by omega) hla rfl
      have hkp : Keeps T n₀ Wa W2 := by rw [← hW2]; exact keeps_putObj T _ (by omega) hla rfl
      have hl2 : W2.heap[w.heap.size + 1]? = some (.loop { rec .ready none with state := .busy }) := by rw [← hW2]; exact World.putObj_heap_same hlt
      have hd2 : W2.heap[w.heap.size]? = some (.deferred (some [])) := by rw [← hW2]; exact (World.putObj_heap_other (by omega)).trans hda
      rw [hW2]
      refine wpIn_mono (hbody _ pre x a' W2 hpre (hAx _ _ _ _ _ hax hcal)) ?_
      have fin : ∀ (jump : Option Code) (W3 : World), BodyKeeps T n₀ w.heap.size W2 W3 →
          (Instr.endRound (w.heap.size + 1) jump).run P W3 = .ok (.bool jump.isNone) (W3.putObj (w.heap.size + 1) (.loop (rec (if jump.isNone then .ready else .done) jump))) ∧
          (W3.putObj (w.heap.size + 1) (.loop (rec (if jump.isNone then .ready else .done) jump))).heap[w.heap.size + 1]? = some (.loop (rec (if jump.isNone then .ready else .done) jump)) ∧
          (W3.putObj (w.heap.size + 1) (.loop (rec (if jump.isNone then .ready else .done) jump))).heap[w.heap.size]? = some (.deferred (some [])) ∧
          Calm T w.heap.size W3 (W3.putObj (w.heap.size + 1) (.loop (rec (if jump.isNone then .ready else .done) jump))) ∧
          Keeps T n₀ W (W3.putObj (w.heap.size + 1) (.loop (rec (if jump.isNone then .ready else .done) jump))) := fun jump W3 hk3 => by
        have hl3 := hk3.same _ _ hl2 (.inr ⟨by omega, rfl⟩)
        have hd3 := hk3.same _ _ hd2 (.inr ⟨Nat.le_refl _, rfl⟩)
        have hr := run_endRound (P := P) jump hl3
        refine ⟨?_, World.putObj_heap_same (Array.getElem?_eq_some_iff.1 hl3).1, (World.putObj_heap_other (by omega)).trans hd3, calm_putObj T _ (by omega) hl3 rfl, ((hka.keeps.trans hkp).trans hk3.keeps).trans (keeps_putObj T _ (by omega) hl3 rfl)⟩
        rw [hrec] at hr ⊢
        exact hr
      intro e a3 W3 hp
      cases e with
      | normal =>
        obtain ⟨hk3, hi3⟩ := hp
        obtain ⟨hr, hl4, hd4, hc4, hk4⟩ := fin none W3 hk3
        exact ⟨_, _, hr, .inl ⟨rfl, ⟨hI _ _ _ hi3 hc4, hl4, hd4⟩, hk4⟩⟩
      | ret =>
        obtain ⟨hk3, hi3⟩ := hp
        obtain ⟨hr, hl4, hd4, hc4, hk4⟩ := fin (some .ret) W3 hk3
        exact ⟨_, _, hr, .inr ⟨rfl, .ret, hIx _ _ _ _ hi3 hc4, hl4, hd4⟩⟩
      | exit id =>
        obtain ⟨hk3, hi3⟩ := hp
        obtain ⟨hr, hl4, hd4, hc4, hk4⟩ := fin (some (.exit id)) W3 hk3
        exact ⟨_, _, hr, .inr ⟨rfl, .exit id, hIx _ _ _ _ hi3 hc4, hl4, hd4⟩⟩
      | goto t =>
        obtain ⟨hk3, hi3⟩ := hp
        obtain ⟨hr, hl4, hd4, hc4, hk4⟩ := fin (some (.goto t)) W3 hk3
        exact ⟨_, _, hr, .inr ⟨rfl, .goto t, hIx _ _ _ _ hi3 hc4, hl4, hd4⟩⟩
      | panic ch => exact hp.elim
      | outgrown => exact hp.elim
    all_goals exact he.elim
  · -- behind the iterator
    rintro e W2 ⟨⟨v, rfl⟩, (⟨hi, hl, hk⟩ | ⟨pre, hpre, c, hi, hl, hk⟩)⟩
    · have hr := run_endLoop (P := P) hl (by rw [hrec]; simp)
      refine ⟨none, _, by rw [hrec] at hr; exact hr, hdone _ _ (Nat.le_refl _) (hI _ _ _ hi (calm_putObj T _ (by omega) hl rfl)) ((World.putObj_heap_other (by omega)).trans hk)⟩
    · have hr := run_endLoop (P := P) hl (by rw [hrec]; simp)
      refine ⟨some c, _, by rw [hrec] at hr; exact hr, hstop _ c pre _ (Nat.le_refl _) hpre (hIx _ _ _ _ hi (calm_putObj T _ (by omega) hl rfl)) ((World.putObj_heap_other (by omega)).trans hk)⟩

theorem Calm.trans {T : TypeId → Bool} {n : Nat} {A B C : World} (h : Calm T n A B) (k : Calm T n B C) : Calm T n A C :=
  ⟨k.os.trans h.os, k.tape.trans h.tape, k.output.trans h.output, Nat.le_trans h.size k.size, fun i o hi ho => k.block i o (h.block i o hi ho) ho⟩

/-- The rule once more, the assignment and the body walked in one go: between them the loop's record alone turns. -/
theorem wp_range_iter' {α : Type} {g : Operand} {ps : Array Tmp} {assign body : Code} {Q : Exit → Act → World → Prop} {a : Act} {w : World} {m : Nat}
    (T : TypeId → Bool) {gf : Nat} {lb : Array Value} (hg : a.eval g = .func (.func gf) #[] lb) (eg : ∀ args w, (callFunc gf args).run P w = .ok (.enter gf args) w)
    {encs : α → Array Value} {n₀ : Nat} {xs : List α} {w0 : World} (hit : Iter P gf lb encs T n₀ xs w0) (hb0 : Below w0.heap.size w0 w) (hn₀ : n₀ ≤ w.heap.size) (hps : ∀ x, (encs x).size = ps.size)
    (I : List α → World → Prop) (Ix : Code → List α → World → Prop) (hI : ∀ s A B, I s A → Calm T w.heap.size A B → I s B) (hIx : ∀ c s A B, Ix c s A → Calm T w.heap.size A B → Ix c s B) (h0 : I [] w)
    (hround : ∀ (l : Nat) (pre : List α) (x : α) (W : World), pre ++ [x] <+: xs → I pre W →
      assign.wpIn (Fence.wide.inRound l) m P (Exit.then (fun a' W' => BodyKeeps T n₀ w.heap.size W W' ∧ ∀ (l' : Nat) (W2 : World), Calm (fun _ => false) w.heap.size W' W2 → body.wpIn (Fence.wide.inRound l') m P (iterPost T n₀ w.heap.size I Ix (pre ++ [x]) W2) a' W2) (fun _ _ _ => False)) { tmps := (ps.zip (encs x)).foldl (fun t (p, v) => t.setIfInBounds p v) a.tmps, defers := [] } W)
    (hdone : ∀ (D : Nat) (W : World), w.heap.size ≤ D → I xs W → W.heap[D]? = some (.deferred (some [])) → Q .normal { a with defers := { target := .collected D, args := #[] } :: a.defers } W)
    (hstop : ∀ (D : Nat) (c : Code) (pre : List α) (W : World), w.heap.size ≤ D → pre <+: xs → Ix c pre W → W.heap[D]? = some (.deferred (some [])) → c.wpIn Fence.wide (m + 2) P Q { a with defers := { target := .collected D, args := #[] } :: a.defers } W) :
    (Code.rangeFunc g ps assign body).wpIn Fence.wide (m + 2) P Q a w :=
  wp_range_iter T hg eg hit hb0 hn₀ hps I Ix hI hIx h0
    (fun pre x a' W' => ∀ (l' : Nat) (W2 : World), Calm (fun _ => false) w.heap.size W' W2 → body.wpIn (Fence.wide.inRound l') m P (iterPost T n₀ w.heap.size I Ix (pre ++ [x]) W2) a' W2)
    (fun _ _ _ _ _ h k l' W2 h2 => h l' W2 (k.trans h2)) hround (fun l _ _ _ W _ h => h l W ⟨rfl, rfl, rfl, Nat.le_refl _, fun _ _ hk _ => hk⟩) hdone hstop

/-! Blocks of cells: what they hold, what a store makes of them. -/

theorem cell_of_block {W : World} {b : Nat} {cs : Array Value} {t : TypeId} {z : Nat × Nat} (h : W.heap[b]? = some (.cells cs t z)) (i : Nat) : W.cell? ⟨b, i, none⟩ = cs[i]? := by
  unfold World.cell?; simp [h]
theorem frozen_of_block {W : World} {b : Nat} {cs : Array Value} {t : TypeId} (h : W.heap[b]? = some (.cells cs t)) (i : Nat) : W.frozen? ⟨b, i, none⟩ = false := by
  unfold World.frozen?; simp [h]

theorem heap_at_new (W : World) (o : Obj) : (W.alloc o).heap[W.heap.size]? = some o := World.alloc_heap_new W o
theorem setCell_heap {W : World} {b : Nat} {cs : Array Value} {t : TypeId} {z : Nat × Nat} (h : W.heap[b]? = some (.cells cs t z)) (i : Nat) (v : Value) : (W.setCell ⟨b, i, none⟩ v).heap[b]? = some (.cells (cs.setIfInBounds i v) t z) := by
  simp [World.setCell, Array.getElem?_modify, h]
theorem drop_at {α : Type} [Inhabited α] {l : List α} {n k : Nat} {x : α} (h : l.length = n) (hk : k < n) (hx : l[k]?.getD default = x) : l.drop k = x :: l.drop (k + 1) := by
  subst h
  rw [List.drop_eq_getElem_cons hk]
  rw [List.getElem?_eq_getElem hk] at hx
  simp at hx; rw [hx]

theorem turn1 {T : TypeId → Bool} {n X : Nat} {A W : World} {cs : Array Value} {t : TypeId} {z : Nat × Nat} (h : Turn T n A W) (hX : W.heap[X]? = some (.cells cs t z)) (ht : T t = true) (hn : n ≤ X) (i : Nat) (v : Value) : Turn T n A (W.setCell ⟨X, i, none⟩ v) :=
  h.setCell (p := ⟨X, i, none⟩) v hn (fun o ho => by rw [hX] at ho; cases ho; exact ht)
theorem heap3 {X : Nat} {W : World} {p q r : Value} {t : TypeId} (hX : W.heap[X]? = some (.cells #[p, q, r] t)) (a b c : Value) :
    (((W.setCell ⟨X, 0, none⟩ a).setCell ⟨X, 1, none⟩ b).setCell ⟨X, 2, none⟩ c).heap[X]? = some (.cells #[a, b, c] t) :=
  (setCell_heap (setCell_heap (setCell_heap hX 0 a) 1 b) 2 c)
theorem turn3 {T : TypeId → Bool} {n X : Nat} {A W : World} {p q r : Value} {t : TypeId} (h : Turn T n A W) (hX : W.heap[X]? = some (.cells #[p, q, r] t)) (ht : T t = true) (hn : n ≤ X) (a b c : Value) :
    Turn T n A (((W.setCell ⟨X, 0, none⟩ a).setCell ⟨X, 1, none⟩ b).setCell ⟨X, 2, none⟩ c) :=
  turn1 (turn1 (turn1 h hX ht hn 0 a) (setCell_heap hX 0 a) ht hn 1 b) (setCell_heap (setCell_heap hX 0 a) 1 b) ht hn 2 c
/-- Below block n nothing has turned. -/
structure Low (n : Nat) (A B : World) : Prop where
  size : A.heap.size ≤ B.heap.size
  eq : ∀ k, k < n → B.heap[k]? = A.heap[k]?
theorem Low.refl (n : Nat) (A : World) : Low n A A := ⟨Nat.le_refl _, fun _ _ => rfl⟩
theorem Low.trans {n : Nat} {A B C : World} (h : Low n A B) (k : Low n B C) : Low n A C := ⟨Nat.le_trans h.size k.size, fun i hi => (k.eq i hi).trans (h.eq i hi)⟩
theorem Low.alloc {n : Nat} {A B : World} (h : Low n A B) (hn : n ≤ A.heap.size) (o : Obj) : Low n A (B.alloc o) :=
  h.trans ⟨by simp, fun k hk => Below.heap_alloc _ _ _ (by have := h.size; omega)⟩
theorem Low.setCell {n : Nat} {A B : World} (h : Low n A B) {p : Addr} (hn : n ≤ p.block) (v : Value) : Low n A (B.setCell p v) :=
  h.trans ⟨by simp [World.setCell], fun k hk => Below.heap_setCell _ _ _ _ (by omega)⟩
theorem Low.keeps {T : TypeId → Bool} {n : Nat} {A B W : World} (h : Low n W A) (k : Keeps T n A B) : Low n W B := h.trans ⟨k.size, k.low⟩
theorem Low.cell {n : Nat} {A B : World} (h : Low n A B) {p : Addr} (hp : p.block < n) : B.cell? p = A.cell? p := World.cell?_of_block (w := A) (h.eq p.block hp)
theorem low3 {n X : Nat} {A W : World} (h : Low n A W) (hn : n ≤ X) (a b c : Value) :
    Low n A (((W.setCell ⟨X, 0, none⟩ a).setCell ⟨X, 1, none⟩ b).setCell ⟨X, 2, none⟩ c) :=
  ((h.setCell (p := ⟨X, 0, none⟩) hn a).setCell (p := ⟨X, 1, none⟩) hn b).setCell (p := ⟨X, 2, none⟩) hn c

theorem Calm.cells {T : TypeId → Bool} {n : Nat} {A B : World} (h : Calm T n A B) {k : Nat} {cs : Array Value} {t : TypeId} {z : Nat × Nat} (hk : A.heap[k]? = some (.cells cs t z)) (ht : T t = false) : B.heap[k]? = some (.cells cs t z) :=
  h.block k _ hk (.inr ⟨rfl, ht⟩)
theorem Calm.below {T : TypeId → Bool} {n m : Nat} {A B w : World} (h : Calm T n A B) (hb : Below m w A) (hm : m ≤ n) (hw : m ≤ w.heap.size) : Below m w B :=
  ⟨h.os.trans hb.os, h.tape.trans hb.tape, h.output.trans hb.output, Nat.le_trans hb.size h.size, fun k hk => by
    have hlt : k < A.heap.size := by have := hb.size; omega
    have ho := h.block k A.heap[k] (Array.getElem?_eq_getElem hlt) (.inl (by omega))
    rw [ho, ← hb.block k hk, Array.getElem?_eq_getElem hlt]⟩
theorem known_cells {T : TypeId → Bool} {W : World} {k : Nat} {cs : Array Value} {t : TypeId} {z : Nat × Nat} (h : W.heap[k]? = some (.cells cs t z)) (ht : T t = false) :
    ∀ o, W.heap[k]? = some o → o.isCells = true ∧ privOf T o = false := fun o ho => by rw [h] at ho; cases ho; exact ⟨rfl, ht⟩
theorem set1 {W : World} {X : Nat} {v : Value} {t : TypeId} (h : W.heap[X]? = some (.cells #[v] t)) (u : Value) : (W.setCell ⟨X, 0, none⟩ u).heap[X]? = some (.cells #[u] t) := setCell_heap h 0 u
theorem set_other {W : World} {X Y : Nat} {i : Nat} {o : Obj} (h : W.heap[X]? = some o) (hne : X ≠ Y) (u : Value) : (W.setCell ⟨Y, i, none⟩ u).heap[X]? = some o := (Below.heap_setCell W ⟨Y, i, none⟩ u X hne).trans h
theorem put_other {W : World} {X D : Nat} {o o' : Obj} (h : W.heap[X]? = some o) (hne : X ≠ D) : (W.putObj D o').heap[X]? = some o := (World.putObj_heap_other (by omega)).trans h
theorem below_put {n : Nat} {w W : World} (h : Below n w W) {D : Nat} (hD : n ≤ D) (o : Obj) : Below n w (W.putObj D o) :=
  h.trans ⟨rfl, rfl, rfl, by simp, fun k hk => World.putObj_heap_other (by omega)⟩

theorem Calm.ownsRow {T : TypeId → Bool} {n : Nat} {A B : World} (h : Calm T n A B) {base e size k : Nat} {v : Value} {xs : List Value} (hr : A.ownsRow base e size v k xs) (ht : T e = false) : B.ownsRow base e size v k xs := by
  obtain ⟨h1, h2⟩ := hr
  refine ⟨h1, ?_⟩
  rcases h2 with h2 | ⟨g, cap, cur, h3, h4, h5, h6⟩
  · exact .inl h2
  · exact .inr ⟨g, cap, cur, h3, h4, h.cells h5 ht, h6⟩
theorem own_known {T : TypeId → Bool} {W : World} {base e size k : Nat} {v : Value} {xs : List Value} (hr : W.ownsRow base e size v k xs) (ht : T e = false) :
    ∀ j, v.ownBlock = some j → base ≤ j ∧ ∀ o, W.heap[j]? = some o → o.isCells = true ∧ privOf T o = false := by
  intro j hj
  obtain ⟨h1, h2⟩ := hr
  rcases h2 with h2 | ⟨g, cap, cur, h3, h4, h5, h6⟩
  · rw [h2.1] at hj; simp [Value.ownBlock] at hj
  · rw [h3] at hj; simp [Value.ownBlock] at hj
    subst hj
    exact ⟨h4, known_cells h5 ht⟩
/-- A block of cells of another element type is not the row's. -/
theorem own_other {W : World} {base e size k X t : Nat} {v : Value} {xs : List Value} {cs : Array Value} (hr : W.ownsRow base e size v k xs) (hX : W.heap[X]? = some (.cells cs t)) (hne : t ≠ e) : some X ≠ v.ownBlock := by
  intro hj
  obtain ⟨h1, h2⟩ := hr
  rcases h2 with h2 | ⟨g, cap, cur, h3, h4, h5, h6⟩
  · rw [h2.1] at hj; simp [Value.ownBlock] at hj
  · rw [h3] at hj; simp [Value.ownBlock] at hj
    subst hj
    rw [hX] at h5; cases h5; exact hne rfl
theorem own_set {W : World} {base e size k X t i : Nat} {v u : Value} {xs : List Value} {cs : Array Value} (hr : W.ownsRow base e size v k xs) (hX : W.heap[X]? = some (.cells cs t)) (hne : t ≠ e) : (W.setCell ⟨X, i, none⟩ u).ownsRow base e size v k xs := by
  obtain ⟨h1, h2⟩ := hr
  refine ⟨h1, ?_⟩
  rcases h2 with h2 | ⟨g, cap, cur, h3, h4, h5, h6⟩
  · exact .inl h2
  · exact .inr ⟨g, cap, cur, h3, h4, set_other h5 (by rintro rfl; rw [hX] at h5; cases h5; exact hne rfl) _, h6⟩
theorem grown_other {W W' : World} {row : Option Nat} (hg : W.grownBy W' row) {X : Nat} {o : Obj} (h : W.heap[X]? = some o) (hne : some X ≠ row) : W'.heap[X]? = some o :=
  (hg.block X (Array.getElem?_eq_some_iff.1 h).1 hne).trans h

/-! An append says, too, where the new row lies: where the old one lay, or behind all that lay. -/

theorem append_block {w w' : World} (base : Nat) (t ty e : TypeId) (i : TypeInfo) (z : Value) (size bytes : Nat) (ht : P.underlying t = some (.slice e)) (hi : P.info? e = some i) (hz : i.zero = some z)
    (hsize : i.size = size) (hby : i.bytes = bytes) (hsz : 0 < size)
    (v v' : Value) (n : Nat) (xs : List Value) (hown : w.ownsRow base e size v n xs)
    (a : Addr) (m c : Nat) (news : List Value) (hl : news.length = m * size) (hm : 0 < m) (hnews : ∀ j u, news[j]? = some u → w.cell? (a.add j) = some u) (h1 : ∀ u ∈ news, u.oneCell' = true)
    (h63 : n + m ≤ maxLen) (hbytes : (n + m) * bytes ≤ 140737488355328) (hrun : (Builtin.append_ #[t, t] ty #[v, .slice (some a) m c]).run P w = .ok v' w') :
    v'.ownBlock = v.ownBlock ∨ v'.ownBlock = some w.heap.size := by
  subst hsize
  subst hby
  have hsmall : n + m ≤ 9223372036854775807 := by simp only [maxLen] at h63; omega
  rcases hown.2 with ⟨rfl, rfl⟩ | ⟨g, cap, cur, rfl, hbg, hg, hnc, hcm, hcs, htake⟩
  · have hr := run_append_nil (P := P) w t ty e i z ht hi hz a m c news hl hnews hm (by omega) (by have hb := hbytes; simp only [Nat.zero_add] at hb; omega)
    rw [hrun] at hr
    injection hr with h2 h3
    rw [h2]
    exact .inr rfl
  · by_cases hroom : n + m ≤ cap
    · have hfit : n * i.size + news.length ≤ cur.size := by rw [hl, hcs, ← Nat.add_mul]; exact Nat.mul_le_mul_right _ hroom
      have hr := run_append_room (P := P) w t ty e i ht hi g n cap cur hg a m c news hl hnews h1 hroom hfit
      rw [hrun] at hr
      injection hr with h2 h3
      rw [h2]
      exact .inl rfl
    · have holds : ∀ j u, xs[j]? = some u → w.cell? ((⟨g, 0, none⟩ : Addr).add j) = some u := hown.cells (g := g) rfl
      have hr := run_append_grow (P := P) w t ty e i z ht hi hz ⟨g, 0, none⟩ n cap xs hown.1 holds a m c news hl hnews (by omega) (by omega) (growslice_fits (by omega) hbytes)
      rw [hrun] at hr
      injection hr with h2 h3
      rw [h2]
      exact .inr rfl

theorem wpList_append_place (w : World) {ops : Array Oper} {rest : List Oper} {o : Oper} {a : Act} {Q : Exit → Act → World → Prop} (hgd : o.guard = none) (s x : Operand) (t : TypeId)
    (ho : o.op = .call { callee := .builtin .append, args := #[s, x], argTypes := #[t, t] })
    (base : Nat) (e : TypeId) (i : TypeInfo) (z : Value) (size bytes : Nat) (ht : P.underlying t = some (.slice e)) (hi : P.info? e = some i) (hz : i.zero = some z)
    (hsize : i.size = size) (hby : i.bytes = bytes) (hzs : z.cells.size = size) (hsz : 0 < size)
    (v : Value) (n : Nat) (xs : List Value) (hs : a.eval s = v) (hown : w.ownsRow base e size v n xs)
    (ad : Addr) (m c : Nat) (news : List Value) (hx : a.eval x = .slice (some ad) m c) (hl : news.length = m * size) (hm : 0 < m) (hnews : ∀ j u, news[j]? = some u → w.cell? (ad.add j) = some u) (h1 : ∀ u ∈ news, u.oneCell' = true)
    (h63 : n + m ≤ maxLen) (hbytes : (n + m) * bytes ≤ 140737488355328) (hbase : base ≤ w.heap.size)
    (h : ∀ v' w', w'.ownsRow base e size v' (n + m) (xs ++ news) → w.grownBy w' v.ownBlock → (v'.ownBlock = v.ownBlock ∨ v'.ownBlock = some w.heap.size) → wpList P ops Q rest (a.put o.dst v') w') : wpList P ops Q (o :: rest) a w := by
  refine wpList_plain hgd fun _ hK => ?_
  obtain ⟨v', w', hr, h2, h3, _⟩ := run_append_own (P := P) w base t o.type e i z size bytes ht hi hz hsize hby hzs hsz v n xs hown ad m c news hl hnews h1 h63 hbytes hbase
  have h5 := append_block base t o.type e i z size bytes ht hi hz hsize hby hsz v v' n xs hown ad m c news hl hm hnews h1 h63 hbytes hr
  unfold Oper.wp execOp
  simp only [ho, resolve, invoke, builtin, Sem.run_bind, Sem.run_pure, Result.andThen_ok, List.map_toArray, List.map_cons, List.map_nil, hs, hx, hr]
  exact hK _ _ (h v' w' h2 h3 h5)

/-! A region that draws its order, inside a round, whose operations only read. -/

section quietRound
variable {ops : Array Oper} {C : World → Prop} {l n : Nat}

theorem wpIn_round_of_quiet {o : Oper} {a : Act} {K : Act → Prop} {K' : Act → World → Prop} {Q' : Exit → Act → World → Prop} {w : World} (hd : ∀ c, o.op ≠ .defer c) (hw : C w) (h : ∀ a w', C w' → K a → K' a w')
    (hh : o.quiet P a C K) : o.wpIn (Fence.wide.inRound l) n P a w K' Q' := by
  obtain ⟨v, h1, h2⟩ := hh
  have h3 := h1 w hw
  unfold Oper.quietAt at h3
  refine ⟨fun _ _ => trivial, ?_⟩
  rw [Oper.semAt_eq _ _ _ hd]
  generalize (execOp a.eval o).run P w = r at h3
  cases r with
  | halt x w' => exact h3.elim
  | ok x w' =>
    cases x
    case value u =>
      obtain ⟨rfl, rfl⟩ : w' = w ∧ u = v := h3
      exact h _ _ hw h2
    case skip =>
      obtain ⟨rfl, rfl⟩ : w' = w ∧ v = undef := h3
      exact h _ _ hw h2
    case enter f args =>
      obtain ⟨rfl, hc⟩ : w' = w ∧ Calls P f args w (fun e w'' => e = .returned v ∧ C w'') := h3
      exact ⟨fun hx => (by cases hx), (callsIn_wide (n := n - 1)).2 (hc.mono fun e w'' ⟨he, hw''⟩ => by subst he; exact h _ _ hw'' h2)⟩
    all_goals exact h3.elim

theorem wpAnyIn_round_of_quiet {md : Region.Mode} {Q : Act → Prop} {Q' : Exit → Act → World → Prop} (hd : ∀ (i : Nat) (o : Oper) (c : Call), ops[i]? = some o → o.op ≠ .defer c) (hQ : ∀ a w, C w → Q a → Q' .normal a w) : ∀ (fuel : Nat) (listed : Array Bool) (a : Act) (w : World), C w →
    wpAnyQ P md ops C Q fuel listed a → wpAnyIn (Fence.wide.inRound l) n P md ops Q' fuel listed a w
  | 0, _, _, _, hw, h => ⟨h.1, hQ _ _ hw h.2⟩
  | fuel + 1, listed, a, w, hw, h => ⟨fun h0 => hQ _ _ hw (h.1 h0), fun i hi => by
      have hh := h.2 i hi
      unfold qOp at hh
      unfold wpOpIn
      split
      · rename_i ho; simp only [ho] at hh; exact wpAnyIn_round_of_quiet hd hQ fuel _ _ _ hw hh
      · rename_i o ho
        simp only [ho] at hh
        split
        · rename_i hwt; simp only [hwt, if_true] at hh
          exact wpIn_round_of_quiet (fun c => hd i o c ho) hw (fun a' w' hw' => wpAnyIn_round_of_quiet hd hQ fuel _ a' w' hw') hh
        · rename_i hwt; simp only [hwt] at hh
          exact ⟨fun _ _ => trivial, wpAnyIn_round_of_quiet hd hQ fuel _ _ _ hw hh⟩⟩

def noDefer (ls : List Oper) : Bool := ls.all fun o => match o.op with | .defer _ => false | _ => true

theorem wpIn_round_quiet {id : Nat} {Q : Exit → Act → World → Prop} {a : Act} {w : World} {ls : List Oper} (hm : P.follows .mixedOrders = true) (hB : Region.lexB .any ls.toArray = true) (hd : noDefer ls = true)
    (h : wpQuiet P ls.toArray (fun w' => ∃ n, w' = w.drewN n) (fun a' => ∀ w', (∃ n, w' = w.drewN n) → Q .normal a' w') ls a) : (Code.region id ls.toArray true).wpIn (Fence.wide.inRound l) n P Q a w := by
  simp only [Region.lexB, Bool.and_eq_true] at hB
  refine wpIn_region_any hm (wpAnyIn_round_of_quiet (C := fun w' => ∃ n, w' = w.drewN n) (Q := fun a' => ∀ w', (∃ n, w' = w.drewN n) → Q .normal a' w') ?_ (fun _ w' hw' h => h w' hw') _ _ _ _ ⟨1, rfl⟩ ?_)
  · intro i o c ho hc
    have hm : o ∈ ls := by simpa using Array.mem_of_getElem? ho
    have := List.all_eq_true.1 hd o hm
    rw [hc] at this
    cases this
  · have := wpAnyQ_lex (C := fun w' => ∃ n, w' = w.drewN n) (md := .any) hB.1 ls 0 (Array.replicate ls.toArray.size false) a (by simp) (by simpa using hB.2) h
    simpa using this
end quietRound

end Go.Proofs.Ytmnilbaefimalaa
