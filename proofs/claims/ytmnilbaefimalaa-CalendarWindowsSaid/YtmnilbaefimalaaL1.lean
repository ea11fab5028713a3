/- Contracts of the helpers of the statements: pick and Make. Conditions: the numbers are int's, the list lies in memory that was there before the call. -/
import Derived.Test.YtmnilbaefimalaaW7
namespace Go.Proofs.Ytmnilbaefimalaa
open Go Go.RowKit Go.Shelf Go.Joins

def pk (c n : Int) : Int := (if c < 0 then -(c + 1) else c) % n

theorem pk_bound (c n : Int) (hn : 0 < n) : 0 ≤ pk c n ∧ pk c n < n := ⟨Int.emod_nonneg _ (by omega), Int.emod_lt_of_pos _ hn⟩

theorem pick_any (c n : Int) (hc : -9223372036854775808 ≤ c ∧ c ≤ 9223372036854775807) (hn : 0 < n ∧ n ≤ 10000000000) (w : World) : Calls Try.prog 15 #[.int .i64 c, .int .i64 n] w fun e w' => e = .returned (.int .i64 (pk c n)) ∧ w = w' := by
  by_cases h : c < 0
  · have E := Lib.hid (show pk c n = (-(c + 1)) % n by simp [pk, h])
    have E2 := Lib.hid (show -((c + 1).tmod n) = (-(c + 1)) % n by rw [← Int.neg_tmod]; exact Int.tmod_eq_emod_of_nonneg (by omega))
    go_enter Try.func15, Try.ntmps15
    go_wp2
    go_ret
    exact ⟨ret_int (by rw [E.out]; exact E2.out), rfl⟩
  · have E := Lib.hid (show pk c n = c % n by simp [pk, h])
    go_enter Try.func15, Try.ntmps15
    go_wp2
    go_ret
    exact ⟨ret_int (by rw [E.out]), rfl⟩

/-- The slice value '.slice sa len _' holds the integers zs, in a block below n. -/
structure IntsAt (n : Nat) (W : World) (sa : Option Addr) (b o len : Nat) (zs : List Int) : Prop where
  eq : zs.length = len
  ad : len = 0 ∨ sa = some ⟨b, o, none⟩
  lt : b < n
  c0 : ∀ j, j < len → W.cell? ⟨b, o + j, none⟩ = some (.int .i64 (zs[j]?.getD 0))
  wf : ∀ j : Nat, -9223372036854775808 ≤ zs[j]?.getD 0 ∧ zs[j]?.getD 0 ≤ 9223372036854775807

def stepTab : List Int := [3600, -3600, 1800, -7200, 0, 40000, -86399]
def stepOf (x : Int) : Int := (stepTab[(pk x 7).toNat]?).getD 0
def clamp (x : Int) : Int := max (-50400) (min 50400 x)
def mkShifts (at_ last : Int) : List Int → Sh
  | [] => []
  | x :: r => (at_ + 1 + pk x 400000, clamp (last + stepOf x)) :: mkShifts (at_ + 1 + pk x 400000) (clamp (last + stepOf x)) r
def mkOff (o : Int) : Int := 900 * pk o 113 - 50400
def mkZone (o : Int) (zs : List Int) : Sh := mkShifts 0 (mkOff o) (zs.take 12)

def mkState (at_ last : Int) : List Int → Int × Int
  | [] => (at_, last)
  | x :: r => mkState (at_ + 1 + pk x 400000) (clamp (last + stepOf x)) r
theorem mkState_snoc (x : Int) : ∀ (p : List Int) (a l : Int), mkState a l (p ++ [x]) = ((mkState a l p).1 + 1 + pk x 400000, clamp ((mkState a l p).2 + stepOf x))
  | [], _, _ => rfl
  | _ :: r, _, _ => mkState_snoc x r _ _
theorem mkShifts_snoc (x : Int) : ∀ (p : List Int) (a l : Int), mkShifts a l (p ++ [x]) = mkShifts a l p ++ [((mkState a l p).1 + 1 + pk x 400000, clamp ((mkState a l p).2 + stepOf x))]
  | [], _, _ => rfl
  | _ :: r, _, _ => by simp only [List.cons_append, mkShifts, mkState, mkShifts_snoc x r]
theorem mkShifts_length : ∀ (p : List Int) (a l : Int), (mkShifts a l p).length = p.length
  | [], _, _ => rfl
  | _ :: r, _, _ => by simp [mkShifts, mkShifts_length r]
theorem stepOf_bound (x : Int) : -86399 ≤ stepOf x ∧ stepOf x ≤ 40000 := by
  have h := pk_bound x 7 (by omega)
  unfold stepOf
  generalize pk x 7 = q at h
  obtain ⟨k, rfl⟩ := Int.eq_ofNat_of_zero_le h.1
  have hk : k < 7 := by omega
  match k, hk with
  | 0, _ => decide
  | 1, _ => decide
  | 2, _ => decide
  | 3, _ => decide
  | 4, _ => decide
  | 5, _ => decide
  | 6, _ => decide
theorem stepTab_get (x : Int) (h : (pk x 7).toNat < [Value.int IntKind.i64 3600, Value.int IntKind.i64 (-3600), Value.int IntKind.i64 1800, Value.int IntKind.i64 (-7200), Value.int IntKind.i64 0, Value.int IntKind.i64 40000, Value.int IntKind.i64 (-86399)].length) :
    [Value.int IntKind.i64 3600, Value.int IntKind.i64 (-3600), Value.int IntKind.i64 1800, Value.int IntKind.i64 (-7200), Value.int IntKind.i64 0, Value.int IntKind.i64 40000, Value.int IntKind.i64 (-86399)][(pk x 7).toNat] = Value.int IntKind.i64 (stepOf x) := by
  unfold stepOf
  generalize (pk x 7).toNat = k at h
  match k, h with
  | 0, _ => rfl
  | 1, _ => rfl
  | 2, _ => rfl
  | 3, _ => rfl
  | 4, _ => rfl
  | 5, _ => rfl
  | 6, _ => rfl
theorem clamp_bound (x : Int) : -50400 ≤ clamp x ∧ clamp x ≤ 50400 := by unfold clamp; omega
theorem take_get {zs : List Int} {k : Nat} (h : k < zs.length) : zs.take (k + 1) = zs.take k ++ [zs[k]?.getD 0] := by
  rw [List.take_succ_eq_append_getElem h, List.getElem?_eq_getElem h]; rfl

theorem own_shape {W : World} {base e size n : Nat} {v : Value} {xs : List Value} (h : W.ownsRow base e size v n xs) : ∃ a c, v = .slice a n c := by
  rcases h.2 with ⟨h1, h2⟩ | ⟨g, cap, cur, h3, _⟩
  · exact ⟨none, 0, by rw [h1, h2]⟩
  · exact ⟨_, _, h3⟩
theorem cell_two_at {w : World} {n : Nat} (h : w.heap.size = n) {a b : Value} {t : TypeId} : ∀ (j : Nat) (u : Value), [a, b][j]? = some u → (w.alloc (.cells #[a, b] t)).cell? ((⟨n, 0, none⟩ : Addr).add j) = some u := by
  subst h; exact cell_two_new w a b t
theorem own_cast {W : World} {base e size n : Nat} {v : Value} {xs ys : List Value} (h : W.ownsRow base e size v n xs) (he : xs = ys) : W.ownsRow base e size v n ys := he ▸ h

theorem make_end {w wr : World} {o : Int} {zs : List Int} {k : Nat} {va : Option Addr} {vc : Nat} (hk : zs.take k = zs.take 12) (hkl : (zs.take k).length = k)
    (hr0 : wr.heap[w.heap.size]? = some (.cells #[.int .i64 0, .slice none 0 0] 24)) (hrow : wr.ownsRow w.heap.size 43 2 (.slice va k vc) k (spanCells (mkShifts 0 (mkOff o) (zs.take k))).toList) (hB : Below w.heap.size w wr) (tmps : Array Value) (ht : tmps[4]?.getD undef = .pointer (some ⟨w.heap.size, 0, none⟩)) :
    bodyPost Try.prog Try.f23 (fun e w' => (∃ v, e = .returned (.agg #[.int .i64 (mkOff o), v]) ∧ w'.ownsRow w.heap.size 43 2 v (mkZone o zs).length (spanCells (mkZone o zs)).toList) ∧ Below w.heap.size w w' ∧ w.heap.size < w'.heap.size) Exit.ret { tmps := tmps, defers := [] }
      ((wr.setCell ⟨w.heap.size, 0, none⟩ (.int .i64 (900 * pk o 113 - 50400))).setCell ⟨w.heap.size, 1, none⟩ (.slice va k vc)) := by
  have h2 := setCell_heap (setCell_heap hr0 0 (.int .i64 (900 * pk o 113 - 50400))) 1 (.slice va k vc)
  have c0 := cell_of_block h2 0
  have c1 := cell_of_block h2 1
  simp at c0 c1
  refine bodyPost_ret (v := .agg #[.int .i64 (mkOff o), .slice va k vc]) ?_ rfl ⟨⟨_, rfl, ?_⟩, ?_, ?_⟩
  · simp [results, Try.results23, ht, go_sem, c0, c1, mkOff]
  · have hl : (mkZone o zs).length = k := by unfold mkZone; rw [mkShifts_length, ← hk, hkl]
    rw [hl]
    unfold mkZone
    rw [← hk]
    exact own_set (own_set hrow hr0 (by decide)) (setCell_heap hr0 0 _) (by decide)
  · exact (hB.setCell (p := ⟨w.heap.size, 0, none⟩) (Nat.le_refl _) _).setCell (p := ⟨w.heap.size, 1, none⟩) (Nat.le_refl _) _
  · exact (Array.getElem?_eq_some_iff.1 h2).1
theorem info43 : (Try.prog.info? 43).map (fun i => (i.zero, i.size, i.bytes)) = some (some (.agg #[.int .i64 0, .int .i64 0]), 2, 16) := by kernel_rfl

set_option maxRecDepth 100000 in
set_option maxHeartbeats 2000000 in
theorem make_any (o : Int) (ho : -9223372036854775808 ≤ o ∧ o ≤ 9223372036854775807) (sa : Option Addr) (b of' len cap : Nat) (zs : List Int) (w : World) (hlen : len ≤ 9223372036854775807) (hS : IntsAt w.heap.size w sa b of' len zs) :
    Calls Try.prog 23 #[.int .i64 o, .slice sa len cap] w fun e w' => (∃ v, e = .returned (.agg #[.int .i64 (mkOff o), v]) ∧ w'.ownsRow w.heap.size 43 2 v (mkZone o zs).length (spanCells (mkZone o zs)).toList) ∧ Below w.heap.size w w' ∧ w.heap.size < w'.heap.size := by
  have hp := pk_bound o 113 (by omega)
  have HS := Lib.hid hS; clear hS
  obtain ⟨i0, hi, hy0, hy1, hy2⟩ := info_parts info43
  go_enter Try.func23, Try.ntmps23
  go_wp2_with (go_at_call 15; refine (pick_any _ _ ho (by omega) _).mono ?_; rintro e w' ⟨rfl, rfl⟩)
  go_loopw [6, 7, 8] (fun a l i wr => ∃ (k : Nat) (at_ last : Int) (v : Value), k ≤ len ∧ k ≤ 12 ∧ i = .int .i64 k ∧ a = .int .i64 at_ ∧ l = .int .i64 last ∧ Hid (mkState 0 (mkOff o) (zs.take k) = (at_, last)) ∧ (0 ≤ at_ ∧ at_ ≤ 400001 * (k : Int)) ∧ (-50400 ≤ last ∧ last ≤ 50400) ∧
      wr.heap[w.heap.size]? = some (.cells #[.int .i64 0, .slice none 0 0] 24) ∧ wr.heap[w.heap.size + 1]? = some (.cells #[.int .i64 (900 * pk o 113 - 50400), v] 24) ∧ wr.ownsRow w.heap.size 43 2 v k (spanCells (mkShifts 0 (mkOff o) (zs.take k))).toList ∧ Below w.heap.size w wr) (fun _ _ i _ => 12 - (intOf i).toNat)
  case atStart => exact ⟨0, 0, _, _, Nat.zero_le _, by omega, rfl, rfl, rfl, rfl, by omega, by omega, (blk2 _ _ _).1, (blk2 _ _ _).2, World.ownsRow_nil _ _ _ _, below2 _ _ _⟩
  case round =>
    obtain ⟨k, at_, last, v, hk, hk2, rfl, rfl, rfl, hst, hatb, hlab, hr0, hz, hrow, hB⟩ := hrel
    obtain ⟨va, vc, rfl⟩ := own_shape hrow
    have z0 := cell_of_block hz 0
    have z1 := cell_of_block hz 1
    have f1 := frozen_of_block hz 1
    have r0 := cell_of_block hr0 0
    have r1 := cell_of_block hr0 1
    have q0 := frozen_of_block hr0 0
    have q1 := frozen_of_block hr0 1
    simp at z0 z1 r0 r1
    have hzl : w.heap.size + 1 < wr.heap.size := (Array.getElem?_eq_some_iff.1 hz).1
    have hrl : w.heap.size < wr.heap.size := by omega
    by_cases hlt : k < len
    · by_cases hlt2 : k < 12
      · obtain rfl : sa = some ⟨b, of', none⟩ := HS.out.ad.resolve_left (by omega)
        obtain ⟨x, hx⟩ : ∃ x, zs[k]?.getD 0 = x := ⟨_, rfl⟩
        have g0 := (hB.cell (p := ⟨b, of' + k, none⟩) HS.out.lt).trans (HS.out.c0 k hlt)
        have hxw := HS.out.wf k
        rw [hx] at g0 hxw
        have HXk := Lib.hid hx; clear hx
        have hp4 := pk_bound x 400000 (by omega)
        have hp7 := pk_bound x 7 (by omega)
        have htab := stepTab_get x
        have hsb := stepOf_bound x
        have hbl : b < w.heap.size := HS.out.lt
        have hbl2 : b < wr.heap.size := by omega
        go_wp2_with (first | (go_at_call 15; refine (pick_any _ _ (by omega) (by omega) _).mono ?_; rintro e w' ⟨rfl, rfl⟩) | (at_builtin; refine wpList_append_own _ rfl _ _ 22 rfl w.heap.size 43 i0 (.agg #[.int .i64 0, .int .i64 0]) 2 16 Try.underlying22 hi hy0 hy1 hy2 rfl (by decide) _ _ _ rfl ((hrow.alloc _).alloc _) ⟨wr.heap.size + 1, 0, none⟩ 1 1 [_, _] rfl rfl (cell_two_at (by simp)) (by simp [Value.oneCell']) (by unfold maxLen; omega) (by omega) (by simp; omega) ?_; intro v' w1 hown' hgrow _; obtain ⟨g', cap', rfl⟩ := ownsRow_succ hown'; have hz2 := grown_other hgrow (some_of_alloc _ (some_of_alloc _ hz)) (own_other hrow hz (by decide)); have hr2 := grown_other hgrow (some_of_alloc _ (some_of_alloc _ hr0)) (own_other hrow hr0 (by decide)); have e1 := cell_of_block hz2 1; have e2 := frozen_of_block hz2 1; simp at e1))
        all_goals
          go_roundw
          case rel =>
            refine ⟨k + 1, at_ + 1 + pk x 400000, clamp (last + stepOf x), .slice (some ⟨g', 0, none⟩) (k + 1) cap', by omega, by omega, by go_num, rfl, ?_, ?_, by omega, clamp_bound _, set_other hr2 (by omega) _, setCell_heap hz2 1 _, ?_, ?_⟩
            · congr 1; unfold clamp; omega
            · show mkState _ _ _ = _
              rw [take_get (by have := HS.out.eq; omega), HXk.out, mkState_snoc, hst.out]
            · rw [take_get (by have := HS.out.eq; omega), HXk.out, mkShifts_snoc, hst.out, spanCells_snoc]
              refine own_cast (own_set hown' hz2 (by decide)) ?_
              simp only [List.append_cancel_left_eq, List.cons.injEq, Value.int.injEq, true_and, and_true]
              unfold clamp; omega
            · exact (((hB.alloc hB.size _).alloc (by simp; omega) _).grown hgrow (by simp; omega) (fun i e => (World.ownsRow.lt hrow i e).1)).setCell (p := ⟨w.heap.size + 1, 1, none⟩) (by simp) _
          case measure => simp [intOf]; omega
      · obtain rfl : k = 12 := by omega
        go_wp2
        exact make_end rfl (by have := HS.out.eq; simp; omega) hr0 hrow hB _ rfl
    · have hkt : zs.take k = zs.take 12 := by
        have := HS.out.eq
        rw [List.take_of_length_le (by omega), List.take_of_length_le (by omega)]
      have HKT := Lib.hid hkt; clear hkt
      go_wp2
      exact make_end HKT.out (by have := HS.out.eq; simp; omega) hr0 hrow hB _ rfl
end Go.Proofs.Ytmnilbaefimalaa
