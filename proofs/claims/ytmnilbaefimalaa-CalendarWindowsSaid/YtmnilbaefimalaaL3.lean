/- A zone that Make made: it is valid, and where it lies. No condition. -/
import Derived.Test.YtmnilbaefimalaaL2
namespace Go.Proofs.Ytmnilbaefimalaa
open Go Go.RowKit Go.Shelf Go.Joins

theorem mkOff_ok (o : Int) : okOff (mkOff o) = true := by
  have := pk_bound o 113 (by omega)
  rw [okOff_iff]; unfold mkOff; omega
theorem mk_valid : ∀ (p : List Int) (a l last : Int), last ≤ a → a + 400000 * (p.length : Int) ≤ 10000000000 → validFrom last (mkShifts a l p) = true
  | [], _, _, _, _, _ => rfl
  | x :: r, a, l, last, h1, h2 => by
    have hp := pk_bound x 400000 (by omega)
    simp only [List.length_cons] at h2
    have ih := mk_valid r (a + 1 + pk x 400000) (clamp (l + stepOf x)) (a + 1 + pk x 400000) (by omega) (by omega)
    have hc := okOff_iff.2 (clamp_bound (l + stepOf x))
    have e1 : decide (a + 1 + pk x 400000 ≤ last) = false := by simp; omega
    have e2 : decide (10000000000 < a + 1 + pk x 400000) = false := by simp; omega
    simp [mkShifts, validFrom, e1, e2, hc, ih]
theorem mkZone_len (o : Int) (zs : List Int) : (mkZone o zs).length ≤ 12 := by
  unfold mkZone; rw [mkShifts_length]; simp; omega
theorem mkZone_valid (o : Int) (zs : List Int) : valid (mkOff o) (mkZone o zs) = true := by
  have hl := mkZone_len o zs
  have h2 : (zs.take 12).length ≤ 12 := by simp; omega
  have h := mk_valid (zs.take 12) 0 (mkOff o) (-1) (by omega) (by omega)
  unfold valid
  rw [mkOff_ok]
  have : validFrom (-1) (mkZone o zs) = true := h
  rw [this]
  simp; omega
theorem mkShifts_bound : ∀ (p : List Int) (a l : Int), ∀ y ∈ mkShifts a l p, a < y.1 ∧ y.1 ≤ a + 400000 * (p.length : Int)
  | [], _, _, y, h => by simp [mkShifts] at h
  | x :: r, a, l, y, h => by
    have hp := pk_bound x 400000 (by omega)
    simp only [mkShifts, List.length_cons] at h ⊢
    cases h with
    | head => simp; omega
    | tail _ h => have := mkShifts_bound r _ _ y h; omega
theorem mkZone_bound (o : Int) (zs : List Int) : ∀ y ∈ mkZone o zs, 0 < y.1 ∧ y.1 ≤ 4800000 := by
  intro y hy
  have h2 : (zs.take 12).length ≤ 12 := by simp; omega
  have := mkShifts_bound _ _ _ y hy
  omega

/-- A zone's shifts, laid by Make into memory of its own. -/
theorem shAt_of_own {n : Nat} {W : World} {v : Value} {ys : Sh} (h : W.ownsRow n 43 2 v ys.length (spanCells ys).toList) (hn : n < W.heap.size) : ∃ sa b cap, v = .slice sa ys.length cap ∧ ShAt W.heap.size W sa b 0 ys.length ys := by
  by_cases h0 : 0 < ys.length
  · obtain ⟨g, cap, cur, rfl, _, hg, hcur⟩ := row_of_own h h0
    have hget : ∀ j, j < ys.length → (spanCells ys)[j * 2]? = some (.int .i64 (ys[j]?.getD default).1) ∧ (spanCells ys)[j * 2 + 1]? = some (.int .i64 (ys[j]?.getD default).2) := by
      intro j hj
      have := spanCells_get ys j (ys[j]?.getD default).1 (ys[j]?.getD default).2 (by rw [List.getElem?_eq_getElem hj]; rfl)
      exact this
    refine ⟨_, g, cap, rfl, rfl, .inr rfl, (Array.getElem?_eq_some_iff.1 hg).1, fun j hj => ?_, fun j hj => ?_⟩
    · rw [Nat.zero_add]; exact (cell_of_block hg _).trans (hcur _ _ (by rw [Array.getElem?_toList]; exact (hget j hj).1))
    · rw [Nat.zero_add]; exact (cell_of_block hg _).trans (hcur _ _ (by rw [Array.getElem?_toList]; exact (hget j hj).2))
  · obtain ⟨a, c, rfl⟩ := own_shape h
    exact ⟨a, n, c, rfl, rfl, .inl (by omega), hn, fun j hj => by omega, fun j hj => by omega⟩

/-- What a law holds behind its call of Make: a zone. -/
structure Made (n : Nat) (off : Int) (ys : Sh) (sa : Option Addr) (b cap : Nat) (W : World) : Prop where
  sh : ShAt W.heap.size W sa b 0 ys.length ys
  ok : valid off ys = true
  few : ys.length ≤ 12
  shb : okOff off = true
  size : n ≤ W.heap.size
theorem Made.step {n : Nat} {off : Int} {ys : Sh} {sa : Option Addr} {b cap : Nat} {W W' : World} (h : Made n off ys sa b cap W) (hB : Below W.heap.size W W') : Made n off ys sa b cap W' :=
  ⟨h.sh.step (Nat.le_refl _) hB, h.ok, h.few, h.shb, Nat.le_trans h.size hB.size⟩

theorem made_any (o : Int) (ho : -9223372036854775808 ≤ o ∧ o ≤ 9223372036854775807) (sa : Option Addr) (b of' len cap : Nat) (zs : List Int) (w : World) (hlen : len ≤ 9223372036854775807) (hS : IntsAt w.heap.size w sa b of' len zs) :
    Calls Try.prog 23 #[.int .i64 o, .slice sa len cap] w fun e w' => ∃ sa' b' cap', e = .returned (.agg #[.int .i64 (mkOff o), .slice sa' (mkZone o zs).length cap']) ∧ Made w'.heap.size (mkOff o) (mkZone o zs) sa' b' cap' w' ∧ Below w.heap.size w w' := by
  refine (make_any o ho sa b of' len cap zs w hlen hS).mono ?_
  rintro e w' ⟨⟨v, rfl, hr⟩, hB, hlt⟩
  obtain ⟨sa', b', cap', rfl, h⟩ := shAt_of_own hr hlt
  exact ⟨sa', b', cap', rfl, ⟨h, mkZone_valid _ _, mkZone_len _ _, mkOff_ok _, Nat.le_refl _⟩, hB⟩

theorem Made.alloc {n : Nat} {off : Int} {ys : Sh} {sa : Option Addr} {b cap : Nat} {W : World} (h : Made n off ys sa b cap W) (o : Obj) : Made n off ys sa b cap (W.alloc o) := h.step ((Below.refl _ W).alloc (Nat.le_refl _) o)
theorem made_local {n : Nat} {off : Int} {ys : Sh} {sa : Option Addr} {b cap : Nat} {W : World} (h : Made n off ys sa b cap W) (s : Int) :
    Calls Try.prog 11 #[.agg #[.int .i64 off, .slice sa ys.length cap], .int .i64 s] W fun e W' => e = .returned (.tuple #[.int .i64 (local' off ys s).1, .int .i64 (local' off ys s).2]) ∧ Made n off ys sa b cap W' ∧ Below W.heap.size W W' :=
  (local_any off sa b 0 _ cap ys s W (by have := h.few; omega) h.sh).mono fun e W' ⟨h1, h2⟩ => ⟨h1, h.step h2, h2⟩
theorem made_length {n : Nat} {off : Int} {ys : Sh} {sa : Option Addr} {b cap : Nat} {W : World} (h : Made n off ys sa b cap W) (d : Int) :
    Calls Try.prog 16 #[.agg #[.int .i64 off, .slice sa ys.length cap], .int .i64 d] W fun e W' => e = .returned (.int .i64 (length' off ys d)) ∧ Made n off ys sa b cap W' ∧ Below W.heap.size W W' :=
  (length_any off sa b 0 _ cap ys d W (by have := h.few; omega) h.sh).mono fun e W' ⟨h1, h2⟩ => ⟨h1, h.step h2, h2⟩
theorem made_at {n : Nat} {off : Int} {ys : Sh} {sa : Option Addr} {b cap : Nat} {W : World} (h : Made n off ys sa b cap W) (d s : Int) :
    Calls Try.prog 19 #[.agg #[.int .i64 off, .slice sa ys.length cap], .int .i64 d, .int .i64 s] W fun e W' => ∃ v, e = .returned v ∧ OwnInts W' W.heap.size v (at' off ys d s) ∧ Made n off ys sa b cap W' ∧ Below W.heap.size W W' :=
  (at_any off sa b 0 _ cap ys d s W (by have := h.few; omega) h.sh).mono fun e W' ⟨⟨v, h1, h3⟩, h2⟩ => ⟨v, h1, h3, h.step h2, h2⟩
theorem made_within {n : Nat} {off : Int} {ys : Sh} {sa : Option Addr} {b cap : Nat} {W : World} (h : Made n off ys sa b cap W) (s f t : Int) :
    Calls Try.prog 21 #[.agg #[.int .i64 off, .slice sa ys.length cap], .int .i64 s, .int .i64 f, .int .i64 t] W fun e W' => e = .returned (.bool (within' off ys s f t)) ∧ Made n off ys sa b cap W' ∧ Below W.heap.size W W' :=
  (within_any off sa b 0 _ cap ys s f t W (by have := h.few; omega) h.sh).mono fun e W' ⟨h1, h2⟩ => ⟨h1, h.step h2, h2⟩
theorem made_spans {n : Nat} {off : Int} {ys : Sh} {sa : Option Addr} {b cap : Nat} {W : World} (h : Made n off ys sa b cap W) (F T f t : Int) (h1 : 0 ≤ F ∧ F ≤ 10000000) (h2 : T ≤ F + 1000000) (h3 : inDy f = true) (h4 : inDy t = true) :
    Calls Try.prog 24 #[.agg #[.int .i64 off, .slice sa ys.length cap], .agg #[.int .i64 F, .int .i64 T], .int .i64 f, .int .i64 t] W fun e W' => ∃ v, e = .returned v ∧ OwnSpans W' W.heap.size v (spans' off ys F T f t) ∧ Made n off ys sa b cap W' ∧ Below W.heap.size W W' :=
  (spans_any off sa b 0 _ cap ys F T f t W (by have := h.few; omega) h.sh h1 h2 h.ok h3 h4).mono fun e W' ⟨⟨v, h1, h3⟩, h2⟩ => ⟨v, h1, h3, h.step h2, h2⟩

theorem wf64 {n : Int} (h : (Lit.int .i64 n).wf = true) : -9223372036854775808 ≤ n ∧ n ≤ 9223372036854775807 := by
  have e1 : IntKind.i64.min = -9223372036854775808 := by decide
  have e2 : IntKind.i64.max = 9223372036854775807 := by decide
  unfold Lit.wf at h
  simp only [Bool.and_eq_true, decide_eq_true_eq, e1, e2] at h
  exact h
theorem IntsAt.step {w W : World} {sa : Option Addr} {b o len : Nat} {zs : List Int} (h : IntsAt w.heap.size w sa b o len zs) (hB : Below w.heap.size w W) : IntsAt W.heap.size W sa b o len zs :=
  ⟨h.eq, h.ad, Nat.lt_of_lt_of_le h.lt hB.size, fun j hj => (hB.cell (p := ⟨b, o + j, none⟩) h.lt).trans (h.c0 j hj), h.wf⟩
theorem intsAt_nil {w : World} {a : Option Addr} (h : 0 < w.heap.size) : IntsAt w.heap.size w a 0 0 0 [] := ⟨rfl, .inl rfl, h, fun j hj => by omega, fun j => by simp⟩
/-- A row of integers that came in, as Make asks for it; 'd' is any block that is there. -/
theorem intsAt_row {w : World} {x : Addr} {len cap : Nat} {zs : List Int} (hl : len ≤ cap) (hz : zs.length = cap) (hc : ∀ i, i < zs.length → w.cell? (x.add i) = some (.int .i64 (zs.getD i 0))) (hw : ∀ n ∈ zs, (Lit.int .i64 n).wf = true) (h0 : 0 < w.heap.size) :
    ∃ b o, IntsAt w.heap.size w (some x) b o len (zs.take len) := by
  have hlen : (zs.take len).length = len := by simp; omega
  have hwf : ∀ j : Nat, -9223372036854775808 ≤ (zs.take len)[j]?.getD 0 ∧ (zs.take len)[j]?.getD 0 ≤ 9223372036854775807 := by
    intro j
    by_cases hj : j < (zs.take len).length
    · rw [List.getElem?_eq_getElem hj]
      exact wf64 (hw _ (List.mem_of_mem_take (List.getElem_mem hj)))
    · rw [List.getElem?_eq_none (by omega)]; simp
  by_cases h1 : len = 0
  · exact ⟨0, 0, hlen, .inl h1, h0, fun j hj => by omega, hwf⟩
  · obtain ⟨xb, xo, xs⟩ := x
    have c0 := hc 0 (by omega)
    have hxs : xs = none := by
      cases xs with
      | none => rfl
      | some k =>
        exfalso
        simp only [Addr.add, if_true] at c0
        unfold World.cell? at c0
        split at c0 <;> simp at c0
    subst hxs
    have hlt : xb < w.heap.size := by
      simp only [Addr.add, if_true] at c0
      unfold World.cell? at c0
      split at c0
      · rename_i h; exact (Array.getElem?_eq_some_iff.1 h).1
      · simp at c0
    refine ⟨xb, xo, hlen, .inr rfl, hlt, fun j hj => ?_, hwf⟩
    have cj := hc j (by omega)
    have ha : (⟨xb, xo, none⟩ : Addr).add j = ⟨xb, xo + j, none⟩ := by
      unfold Addr.add; split
      · subst j; rfl
      · rfl
    rw [ha] at cj
    rw [cj, List.getElem?_take_of_lt hj]
    simp [List.getD]

theorem cell_lt {w : World} {p : Addr} {v : Value} (h : w.cell? p = some v) : p.block < w.heap.size := by
  unfold World.cell? at h
  split at h
  · rename_i h1; exact (Array.getElem?_eq_some_iff.1 h1).1
  · simp at h
theorem intsAt_in {w w1 : World} {a : Option Addr} {len cap : Nat} {zs : List Int}
    (h : (a = none ∧ len = 0 ∧ cap = 0 ∧ zs = []) ∨ ∃ x, a = some x ∧ len ≤ cap ∧ cap ≤ maxLen ∧ zs.length = cap ∧ (∀ i, i < zs.length → w.cell? (x.add i) = some (.int .i64 (zs.getD i 0))) ∧ ∀ n ∈ zs, (Lit.int .i64 n).wf = true)
    (hB : Below w.heap.size w w1) (h0 : 0 < w1.heap.size) : len ≤ 9223372036854775807 ∧ ∃ b o ys, IntsAt w1.heap.size w1 a b o len ys := by
  rcases h with ⟨rfl, rfl, _, _⟩ | ⟨x, rfl, hl, hm, hz, hc, hw⟩
  · exact ⟨by omega, 0, 0, [], intsAt_nil h0⟩
  · have hmax : maxLen = 9223372036854775807 := by decide
    refine ⟨by omega, ?_⟩
    by_cases h1 : len = 0
    · subst h1; exact ⟨0, 0, [], intsAt_nil h0⟩
    · obtain ⟨b, o, hI⟩ := intsAt_row hl hz hc hw (by have := cell_lt (hc 0 (by omega)); omega)
      exact ⟨b, o, _, hI.step hB⟩
end Go.Proofs.Ytmnilbaefimalaa
