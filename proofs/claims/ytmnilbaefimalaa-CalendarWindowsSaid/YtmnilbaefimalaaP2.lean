/- CalendarSteady: the walk. Its conditions: the integers fit, the row of integers lies in memory. -/
import Derived.Test.YtmnilbaefimalaaM2
namespace Go.Proofs.Ytmnilbaefimalaa
open Go Go.RowKit Go.Shelf Go.Joins

/-- What a law asks of a row of integers that came in. -/
def RowIn (w : World) (a : Option Addr) (len cap : Nat) (zs : List Int) : Prop :=
  (a = none ∧ len = 0 ∧ cap = 0 ∧ zs = []) ∨ ∃ x, a = some x ∧ len ≤ cap ∧ cap ≤ maxLen ∧ zs.length = cap ∧ (∀ i, i < zs.length → w.cell? (x.add i) = some (.int .i64 (zs.getD i 0))) ∧ ∀ n ∈ zs, (Lit.int .i64 n).wf = true

/-- A zone that Make made, behind the law's first two calls. -/
theorem sane_made {w : World} {a : Option Addr} {len cap : Nat} {zs : List Int} (hI : RowIn w a len cap zs) {w1 : World} (hB : Below w.heap.size w w1) (h0 : w.heap.size < w1.heap.size) (o : Int) (ho : -9223372036854775808 ≤ o ∧ o ≤ 9223372036854775807) :
    Calls Try.prog 23 #[.int .i64 o, .slice a len cap] w1 fun e w2 => ∃ n ys sa b c, e = .returned (.agg #[.int .i64 (mkOff o), .slice sa (List.length ys) c]) ∧ Made n (mkOff o) ys sa b c w2 ∧ (∀ y ∈ ys, 0 < y.1 ∧ y.1 ≤ 4800000) ∧ Below w.heap.size w w2 := by
  obtain ⟨hl, b, of', ys, hA⟩ := intsAt_in hI hB (by omega)
  refine (made_any o ho a b of' len cap ys w1 hl hA).mono ?_
  rintro e w2 ⟨sa, b', c, rfl, hM, hB2⟩
  exact ⟨_, _, sa, b', c, rfl, hM, mkZone_bound o ys, below_step hB hB2 (Nat.le_refl _)⟩
theorem below_alloc {n : Nat} {w W : World} (h : Below n w W) (hn : n ≤ w.heap.size) (o : Obj) : Below n w (W.alloc o) := h.alloc (by have := h.size; omega) o
theorem jmp_bound (s t : Int) {n0 : Int} (hn : -50400 ≤ n0 ∧ n0 ≤ 50400) {ys : Sh} (h : ∀ y ∈ ys, -50400 ≤ y.2 ∧ y.2 ≤ 50400) : ∀ k : Nat, -100800 * (k : Int) ≤ (jmp s t (0, n0) (ys.take k)).1 ∧ (jmp s t (0, n0) (ys.take k)).1 ≤ 100800 * (k : Int) ∧ -50400 ≤ (jmp s t (0, n0) (ys.take k)).2 ∧ (jmp s t (0, n0) (ys.take k)).2 ≤ 50400
  | 0 => by simp [jmp]; omega
  | k + 1 => by
    have ih := jmp_bound s t hn h k
    by_cases hk : k < ys.length
    · have hm := h ys[k] (List.getElem_mem hk)
      rw [List.take_succ_eq_append_getElem hk, show ys[k] = (ys[k].1, ys[k].2) from rfl, jmp_snoc]
      dsimp only
      refine ⟨?_, ?_, hm⟩ <;> split <;> omega
    · rw [List.take_of_length_le (by omega)] at ih ⊢
      omega
theorem valid_offs {off : Int} {ys : Sh} (h : valid off ys = true) : ∀ y ∈ ys, -50400 ≤ y.2 ∧ y.2 ≤ 50400 := by
  have hv := (valid_parts h).2.2
  suffices ∀ (ys : Sh) (last : Int), validFrom last ys = true → ∀ y ∈ ys, -50400 ≤ y.2 ∧ y.2 ≤ 50400 from this ys (-1) hv
  intro ys
  induction ys with
  | nil => intro _ _ y hy; simp at hy
  | cons z r ih =>
    obtain ⟨b, o⟩ := z
    intro last h y hy
    obtain ⟨_, _, h3, h4⟩ := vf_cons h
    cases hy with
    | head => exact okOff_iff.1 h3
    | tail _ hy => exact ih b h4 y hy
theorem sh_take {ys : Sh} {k : Nat} (h : k < ys.length) : ys.take (k + 1) = ys.take k ++ [ys[k]?.getD default] := by
  rw [List.take_succ_eq_append_getElem h, List.getElem?_eq_getElem h]; rfl

set_option maxRecDepth 100000 in
set_option maxHeartbeats 2000000 in
theorem steady_walk (o : Int) (a : Option Addr) (len cap : Nat) (zs : List Int) (p q : Int) (w : World) (ho : -9223372036854775808 ≤ o ∧ o ≤ 9223372036854775807) (hI : RowIn w a len cap zs) (hp : -9223372036854775808 ≤ p ∧ p ≤ 9223372036854775807) (hq : -9223372036854775808 ≤ q ∧ q ≤ 9223372036854775807) :
    Calls Try.prog 6 #[.int .i64 o, .slice a len cap, .int .i64 p, .int .i64 q] w fun e w' => e = .returned (.bool true) ∧ Below w.heap.size w w' := by
  have hpb := pk_bound p 6000000 (by omega)
  have hqb := pk_bound q 300000 (by omega)
  obtain ⟨s, hs⟩ : ∃ s, pk p 6000000 = s := ⟨_, rfl⟩
  obtain ⟨t, ht⟩ : ∃ t, s + pk q 300000 = t := ⟨_, rfl⟩
  have HI := Lib.hid hI; clear hI
  go_enter Try.func6, Try.ntmps6
  go_wp2_with fail
  refine (sane_any w).mono ?_
  rintro e w1 ⟨rfl, hB1, hz1⟩
  go_wp2_with fail
  refine (sane_made HI.out hB1 hz1 o ho).mono ?_
  rintro e w2 ⟨n, ys, sa, b, zc, rfl, hM, hyb, hB2⟩
  clear hB1 hz1
  have L := steady_law (s := s) (t := t) hM.ok (by omega) (by omega) (by omega)
  have JB := jmp_bound s t (okOff_iff.1 hM.shb) (valid_offs hM.ok)
  have hd := local_ok (off := mkOff o) (ys := ys) s
  have hd2 := local_ok (off := mkOff o) (ys := ys) t
  have H1 := Lib.hid L; clear L
  have H2 := Lib.hid JB; clear JB
  have H3 := Lib.hid hyb; clear hyb
  have hM := hM.alloc (.cells #[.int .i64 (mkOff o), .slice sa ys.length zc] 24)
  have hB := below_alloc hB2 (Nat.le_refl _) (.cells #[.int .i64 (mkOff o), .slice sa ys.length zc] 24)
  have hz := heap_at_new w2 (.cells #[.int .i64 (mkOff o), .slice sa ys.length zc] 24)
  clear hB2
  have hob := okOff_iff.1 (mkOff_ok o)
  go_wp2_with fail
  refine (pick_any p 6000000 hp (by omega) _).mono ?_
  rintro e w' ⟨rfl, rfl⟩
  rw [hs]
  go_wp2_with fail
  refine (pick_any q 300000 hq (by omega) _).mono ?_
  rintro e w' ⟨rfl, rfl⟩
  go_wp2_with fail
  generalize w2.alloc (.cells #[.int .i64 (mkOff o), .slice sa ys.length zc] 24) = W at *
  have c0 := cell_of_block hz 0
  have c1 := cell_of_block hz 1
  simp at c0 c1
  go_loopw [13, 14, 15] (fun j now i wr => ∃ (k : Nat) (ju nw : Int), k ≤ ys.length ∧ i = .int .i64 k ∧ j = .int .i64 ju ∧ now = .int .i64 nw ∧ Hid (jmp s t (0, mkOff o) (ys.take k) = (ju, nw)) ∧ wr = W) (fun _ _ i _ => ys.length - (intOf i).toNat)
  case atStart => exact ⟨0, 0, _, Nat.zero_le _, rfl, rfl, rfl, rfl, rfl⟩
  case round =>
    obtain ⟨k, ju, nw, hk, rfl, rfl, rfl, hj, rfl⟩ := hrel
    have hjb := H2.out k
    rw [hj.out] at hjb
    dsimp only at hjb
    have hfew := hM.few
    by_cases hlt : k < ys.length
    · obtain ⟨y, hy⟩ : ∃ y, ys[k]?.getD default = y := ⟨_, rfl⟩
      obtain ⟨u, v⟩ := y
      obtain rfl : sa = some ⟨b, 0, none⟩ := hM.sh.ad.resolve_left (by omega)
      have g0 := hM.sh.c0 k hlt
      have g1 := hM.sh.c1 k hlt
      rw [hy] at g0 g1
      simp only [Nat.zero_add] at g0 g1
      have hmem : (u, v) ∈ ys := by rw [← hy, List.getElem?_eq_getElem hlt]; exact List.getElem_mem hlt
      have hu := H3.out _ hmem
      have hv := valid_offs hM.ok _ hmem
      dsimp only at hu hv
      have hstep : jmp s t (0, mkOff o) (ys.take (k + 1)) = (if s < u ∧ u ≤ t then ju + v - nw else ju, v) := by rw [sh_take hlt, hy, jmp_snoc, hj.out]
      have HS := Lib.hid hstep; clear hstep hy hmem
      by_cases hsu : s < u
      · by_cases hut : u ≤ t
        · go_wp2_with fail
          go_roundw
          case rel => exact ⟨k + 1, ju + v - nw, v, by omega, by go_num, rfl, rfl, (by show jmp _ _ _ _ = _; rw [HS.out, if_pos ⟨hsu, hut⟩]), trivial⟩
          case measure => simp [intOf]; omega
        · go_wp2_with fail
          go_roundw
          case rel => exact ⟨k + 1, ju, v, by omega, by go_num, rfl, rfl, (by show jmp _ _ _ _ = _; rw [HS.out, if_neg (by omega)]), trivial⟩
          case measure => simp [intOf]; omega
      · go_wp2_with fail
        go_roundw
        case rel => exact ⟨k + 1, ju, v, by omega, by go_num, rfl, rfl, (by show jmp _ _ _ _ = _; rw [HS.out, if_neg (by omega)]), trivial⟩
        case measure => simp [intOf]; omega
    · have hjy : jmp s t (0, mkOff o) ys = (ju, nw) := by rw [← hj.out, List.take_of_length_le (by omega)]
      have HL := H1.out
      rw [hjy] at HL
      generalize hl1 : local' (mkOff o) ys s = l1 at *
      generalize hl2 : local' (mkOff o) ys t = l2 at *
      obtain ⟨d1, k1⟩ := l1
      obtain ⟨d2, k2⟩ := l2
      dsimp only at hd hd2 HL
      have HL := Lib.hid HL
      have G1 := Lib.hid hl1; clear hl1
      have G2 := Lib.hid hl2; clear hl2
      have HJ := Lib.hid hjy; clear hjy
      go_wp2_with fail
      refine (made_local hM s).mono ?_
      rintro e w4 ⟨rfl, hM4, hB4⟩
      rw [G1.out]
      have hz4 := keep hB4 hz
      have c0 := cell_of_block hz4 0
      have c1 := cell_of_block hz4 1
      simp at c0 c1
      go_wp2_with fail
      refine (made_local hM4 t).mono ?_
      rintro e w5 ⟨rfl, hM5, hB5⟩
      rw [G2.out]
      have hfin : d2 * 86400 + k2 - d1 * 86400 - k1 = t - s + ju := HL.out
      go_wp2_with fail
      go_ret
      exact ⟨rfl, below_step (below_step hB hB4 (by have := hB.size; omega)) hB5 (by have := hB.size; have := hB4.size; omega)⟩
end Go.Proofs.Ytmnilbaefimalaa
