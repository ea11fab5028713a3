/- Laws of the calendar in plain terms: the spans within a daily window. No program in sight; the conditions stand at each theorem. -/
import Derived.Test.YtmnilbaefimalaaM3
namespace Go.Proofs.Ytmnilbaefimalaa

abbrev Sps := List (Int × Int)
def Good (lo hi : Int) (l : Sps) : Prop := (∀ s ∈ l, lo ≤ s.1 ∧ s.1 < s.2 ∧ s.2 ≤ hi) ∧ l.Pairwise (fun a b => a.2 < b.1)
def inS (x : Int) (l : Sps) : Prop := ∃ s ∈ l, s.1 ≤ x ∧ x < s.2
def tot : Sps → Int
  | [] => 0
  | s :: r => s.2 - s.1 + tot r
theorem tot_append : ∀ (l r : Sps), tot (l ++ r) = tot l + tot r
  | [], r => by simp [tot]
  | s :: l, r => by simp only [List.cons_append, tot, tot_append l r]; omega
theorem inS_append {x : Int} {l r : Sps} : inS x (l ++ r) ↔ inS x l ∨ inS x r := by
  simp only [inS, List.mem_append]
  constructor
  · rintro ⟨s, h1 | h1, h2⟩
    · exact .inl ⟨s, h1, h2⟩
    · exact .inr ⟨s, h1, h2⟩
  · rintro (⟨s, h1, h2⟩ | ⟨s, h1, h2⟩)
    · exact ⟨s, .inl h1, h2⟩
    · exact ⟨s, .inr h1, h2⟩
theorem inS_one {x : Int} {s : Int × Int} : inS x [s] ↔ s.1 ≤ x ∧ x < s.2 := by simp [inS]
theorem snoc_cases (l : Sps) : l = [] ∨ ∃ r s, l = r ++ [s] := by
  by_cases h : l = []
  · exact .inl h
  · exact .inr ⟨l.dropLast, l.getLast h, (List.dropLast_concat_getLast h).symm⟩
theorem addSpan_cases (l : Sps) {a b : Int} (h : a < b) : (l = [] ∧ addSpan l a b = [(a, b)]) ∨ (∃ r p, l = r ++ [(p, a)] ∧ addSpan l a b = r ++ [(p, b)]) ∨ (∃ r s, l = r ++ [s] ∧ s.2 ≠ a ∧ addSpan l a b = r ++ [s] ++ [(a, b)]) := by
  rcases snoc_cases l with rfl | ⟨r, s, rfl⟩
  · exact .inl ⟨rfl, addSpan_nil h⟩
  · obtain ⟨p, q⟩ := s
    by_cases hq : q = a
    · subst hq; exact .inr (.inl ⟨r, p, rfl, addSpan_join h⟩)
    · exact .inr (.inr ⟨r, (p, q), rfl, hq, addSpan_new h hq⟩)
theorem good_mono {lo hi hi' : Int} {l : Sps} (h : Good lo hi l) (hh : hi ≤ hi') : Good lo hi' l := ⟨fun s hs => by have := h.1 s hs; omega, h.2⟩
theorem good_snoc {lo hi : Int} {r : Sps} {s : Int × Int} : Good lo hi (r ++ [s]) ↔ Good lo hi r ∧ (∀ t ∈ r, t.2 < s.1) ∧ lo ≤ s.1 ∧ s.1 < s.2 ∧ s.2 ≤ hi := by
  unfold Good
  rw [List.pairwise_append]
  constructor
  · rintro ⟨h1, h2, _, h4⟩
    exact ⟨⟨fun t ht => h1 t (by simp [ht]), h2⟩, fun t ht => h4 t ht s (by simp), h1 s (by simp)⟩
  · rintro ⟨⟨h1, h2⟩, h3, h4⟩
    refine ⟨fun t ht => ?_, h2, by simp, fun t ht u hu => ?_⟩
    · simp at ht
      rcases ht with ht | rfl
      · exact h1 t ht
      · exact h4
    · simp at hu; subst hu; exact h3 t ht
theorem good_add {lo hi hi' a b : Int} {l : Sps} (h : Good lo hi l) (hh : hi ≤ hi') (hab : a < b → hi ≤ a ∧ lo ≤ a ∧ b ≤ hi') : Good lo hi' (addSpan l a b) := by
  by_cases hlt : a < b
  · obtain ⟨h1, h2, h3⟩ := hab hlt
    rcases addSpan_cases l hlt with ⟨rfl, e⟩ | ⟨r, p, rfl, e⟩ | ⟨r, s, rfl, hne, e⟩
    · rw [e]
      exact ⟨fun s hs => by simp at hs; subst hs; dsimp only; omega, by simp⟩
    · rw [e]
      obtain ⟨k1, k2, k3, k4, k5⟩ := good_snoc.1 h
      dsimp only at k2 k3 k4 k5
      exact good_snoc.2 ⟨good_mono k1 hh, k2, k3, by dsimp only; omega, h3⟩
    · rw [e]
      obtain ⟨k1, k2, k3, k4, k5⟩ := good_snoc.1 h
      refine good_snoc.2 ⟨good_mono h hh, ?_, h2, hlt, h3⟩
      intro t ht
      simp at ht
      dsimp only
      rcases ht with ht | rfl
      · have := k2 t ht; omega
      · omega
  · rw [addSpan_no (by omega)]; exact good_mono h hh
theorem inS_add {lo hi a b x : Int} {l : Sps} (h : Good lo hi l) : inS x (addSpan l a b) ↔ inS x l ∨ (a ≤ x ∧ x < b) := by
  by_cases hlt : a < b
  · rcases addSpan_cases l hlt with ⟨rfl, e⟩ | ⟨r, p, rfl, e⟩ | ⟨r, s, rfl, hne, e⟩
    · rw [e, inS_one]; simp [inS]
    · obtain ⟨k1, k2, k3, k4, k5⟩ := good_snoc.1 h
      dsimp only at k4
      rw [e, inS_append, inS_append, inS_one, inS_one]
      dsimp only
      constructor
      · rintro (h1 | h1)
        · exact .inl (.inl h1)
        · by_cases hx : x < a
          · exact .inl (.inr (by omega))
          · exact .inr (by omega)
      · rintro ((h1 | h1) | h1)
        · exact .inl h1
        · exact .inr (by omega)
        · exact .inr (by omega)
    · rw [e, inS_append, inS_one]
  · rw [addSpan_no (by omega)]
    constructor
    · exact .inl
    · rintro (h1 | h1)
      · exact h1
      · omega
theorem tot_add (l : Sps) (a b : Int) : tot (addSpan l a b) = tot l + max 0 (b - a) := by
  by_cases hlt : a < b
  · rcases addSpan_cases l hlt with ⟨rfl, e⟩ | ⟨r, p, rfl, e⟩ | ⟨r, s, rfl, hne, e⟩
    · rw [e]; simp only [tot]; omega
    · rw [e, tot_append, tot_append]; simp only [tot]; omega
    · rw [e, tot_append]; simp only [tot]; omega
  · rw [addSpan_no (by omega)]; omega

/-- The windows of a day: in order, within the day. -/
def WS : Int → Sps → Prop
  | c, [] => c ≤ 86400
  | c, w :: r => c ≤ w.1 ∧ w.1 ≤ w.2 ∧ WS w.2 r
theorem wins_ws {a b : Int} (ha : inDy a = true) (hb : inDy b = true) : WS 0 (wins a b) := by
  have ha' : 0 ≤ a ∧ a < 86400 := by simpa [inDy] using ha
  have hb' : 0 ≤ b ∧ b < 86400 := by simpa [inDy] using hb
  unfold wins
  split
  · simp only [WS]; omega
  · split
    · simp only [WS]; omega
    · simp only [WS]; omega
theorem WS.le : ∀ {ws : Sps} {c : Int}, WS c ws → c ≤ 86400
  | [], _, h => h
  | w :: r, c, ⟨h1, h2, h3⟩ => by have := WS.le h3; omega
theorem WS.mem : ∀ {ws : Sps} {c : Int}, WS c ws → ∀ w ∈ ws, c ≤ w.1 ∧ w.2 ≤ 86400
  | [], _, _, w, h => by simp at h
  | v :: r, c, ⟨h1, h2, h3⟩, w, h => by
    cases h with
    | head => have := WS.le h3; omega
    | tail _ h => have := WS.mem h3 w h; omega

theorem day_good {lo A B m : Int} (hlo : lo ≤ A) : ∀ {ws : Sps} {c : Int} {out : Sps}, WS c ws → Good lo (min B (max A (m + c))) out → Good lo (min B (max A (m + 86400))) (addDay A B m ws out)
  | [], c, out, h, hg => good_mono hg (by simp only [WS] at h; omega)
  | w :: r, c, out, ⟨h1, h2, h3⟩, hg => by
    have h4 := h3.le
    show Good _ _ (addDay A B m r (addSpan out (max A (m + w.1)) (min B (m + w.2))))
    exact day_good hlo h3 (good_add hg (by omega) (fun _ => by omega))
theorem day_in {lo A B m x : Int} (hlo : lo ≤ A) : ∀ {ws : Sps} {c : Int} {out : Sps}, WS c ws → Good lo (min B (max A (m + c))) out → (inS x (addDay A B m ws out) ↔ inS x out ∨ ∃ w ∈ ws, max A (m + w.1) ≤ x ∧ x < min B (m + w.2))
  | [], c, out, _, _ => by simp [addDay]
  | w :: r, c, out, ⟨h1, h2, h3⟩, hg => by
    have h4 := h3.le
    have hg' : Good lo (min B (max A (m + w.2))) (addSpan out (max A (m + w.1)) (min B (m + w.2))) := good_add hg (by omega) (fun _ => by omega)
    show inS x (addDay A B m r (addSpan out (max A (m + w.1)) (min B (m + w.2)))) ↔ _
    rw [day_in hlo h3 hg', inS_add hg]
    simp only [List.mem_cons, exists_eq_or_imp, or_assoc]
def seg (A B u v : Int) : Int := max 0 (min B v - max A u)
theorem seg_add {A B u v w : Int} (h1 : u ≤ v) (h2 : v ≤ w) : seg A B u v + seg A B v w = seg A B u w := by unfold seg; omega
def dtot (A B m : Int) : Sps → Int
  | [] => 0
  | w :: r => seg A B (m + w.1) (m + w.2) + dtot A B m r
theorem day_tot (A B m : Int) : ∀ (ws out : Sps), tot (addDay A B m ws out) = tot out + dtot A B m ws
  | [], out => by simp [addDay, dtot]
  | w :: r, out => by
    show tot (addDay A B m r (addSpan out (max A (m + w.1)) (min B (m + w.2)))) = _
    rw [day_tot, tot_add]
    simp only [dtot, seg]
    omega
/-- A day is parted by a window and its complement; or it is taken twice. -/
theorem day_both {a b : Int} (ha : inDy a = true) (hb : inDy b = true) (A B m : Int) : dtot A B m (wins a b) + dtot A B m (wins b a) = (if a = b then 2 else 1) * seg A B m (m + 86400) := by
  have ha' : 0 ≤ a ∧ a < 86400 := by simpa [inDy] using ha
  have hb' : 0 ≤ b ∧ b < 86400 := by simpa [inDy] using hb
  have key : ∀ u v : Int, 0 ≤ u → u ≤ v → v ≤ 86400 → seg A B (m + 0) (m + u) + seg A B (m + u) (m + v) + seg A B (m + v) (m + 86400) = seg A B m (m + 86400) := by
    intro u v h1 h2 h3
    rw [seg_add (by omega) (by omega), seg_add (by omega) (by omega)]
    congr 1; omega
  by_cases h1 : a < b
  · have := key a b (by omega) (by omega) (by omega)
    unfold wins
    rw [if_pos h1, if_neg (by omega), if_pos h1, if_neg (by omega)]
    simp only [dtot]
    omega
  · by_cases h2 : b < a
    · have := key b a (by omega) (by omega) (by omega)
      unfold wins
      rw [if_neg h1, if_pos h2, if_pos h2, if_neg (by omega)]
      simp only [dtot]
      omega
    · have e : m + 0 = m := by omega
      unfold wins
      rw [if_neg h1, if_neg h2, if_neg h2, if_neg h1, if_pos (by omega)]
      simp only [dtot, e]
      omega

theorem days_good {lo A B m : Int} {ws : Sps} (hlo : lo ≤ A) (hw : WS 0 ws) {out : Sps} (hg : Good lo (min B (max A m)) out) : ∀ n : Nat, Good lo (min B (max A (m + 86400 * (n : Int)))) (addDays A B m ws out n)
  | 0 => by simpa [addDays] using hg
  | n + 1 => by
    have ih := days_good hlo hw hg n
    simp only [addDays]
    have := day_good (m := m + 86400 * (n : Int)) hlo hw (c := 0) (by rw [Int.add_zero]; exact ih)
    rw [show m + 86400 * ((n + 1 : Nat) : Int) = m + 86400 * (n : Int) + 86400 by omega]
    exact this
theorem days_in {lo A B m x : Int} {ws : Sps} (hlo : lo ≤ A) (hw : WS 0 ws) {out : Sps} (hg : Good lo (min B (max A m)) out) : ∀ n : Nat, inS x (addDays A B m ws out n) ↔ inS x out ∨ ∃ j : Nat, j < n ∧ ∃ w ∈ ws, max A (m + 86400 * (j : Int) + w.1) ≤ x ∧ x < min B (m + 86400 * (j : Int) + w.2)
  | 0 => by simp [addDays]
  | n + 1 => by
    have ih := days_in (x := x) hlo hw hg n
    have hgn := days_good hlo hw hg n
    simp only [addDays]
    rw [day_in hlo hw (c := 0) (by rw [Int.add_zero]; exact hgn), ih, or_assoc]
    refine or_congr Iff.rfl ?_
    constructor
    · rintro (⟨j, hj, h⟩ | h)
      · exact ⟨j, by omega, h⟩
      · exact ⟨n, by omega, h⟩
    · rintro ⟨j, hj, h⟩
      by_cases e : j = n
      · subst e; exact .inr h
      · exact .inl ⟨j, by omega, h⟩
theorem days_tot {A B m K : Int} {w1 w2 : Sps} (hd : ∀ m, dtot A B m w1 + dtot A B m w2 = K * seg A B m (m + 86400)) (o1 o2 : Sps) : ∀ n : Nat, tot (addDays A B m w1 o1 n) + tot (addDays A B m w2 o2 n) = tot o1 + tot o2 + K * (seg A B m (m + 86400 * (n : Int)) - seg A B m m)
  | 0 => by simp [addDays]
  | n + 1 => by
    have ih := days_tot (m := m) hd o1 o2 n
    have h := hd (m + 86400 * (n : Int))
    simp only [addDays, day_tot]
    rw [show m + 86400 * ((n + 1 : Nat) : Int) = m + 86400 * (n : Int) + 86400 by omega, ← seg_add (u := m) (v := m + 86400 * (n : Int)) (by omega) (by omega)]
    have e : K * (seg A B m (m + 86400 * (n : Int)) + seg A B (m + 86400 * (n : Int)) (m + 86400 * (n : Int) + 86400) - seg A B m m) = K * (seg A B m (m + 86400 * (n : Int)) - seg A B m m) + K * seg A B (m + 86400 * (n : Int)) (m + 86400 * (n : Int) + 86400) := by
      rw [← Int.mul_add]; congr 1; omega
    omega

theorem seg_self (A B m : Int) : seg A B m m = 0 := by unfold seg; omega
theorem stretch_good {F T : Int} {ws : Sps} {x : St} (hw : WS 0 ws) (hx : x.1 < x.2.1) {out : Sps} (hg : Good F (max F (min x.1 T)) out) : Good F (max F (min x.2.1 T)) (addStretch F T ws out x) := by
  unfold addStretch
  split
  · exact good_mono hg (by omega)
  · rename_i hlt
    generalize hm : (max x.1 F + x.2.2) / 86400 * 86400 - x.2.2 = m
    have h1 := days_good (lo := F) (A := max x.1 F) (B := min x.2.1 T) (m := m) (by omega) hw (good_mono hg (by omega)) (nDays m (min x.2.1 T))
    exact good_mono h1 (by omega)
theorem stretch_in {F T s : Int} {ws : Sps} {x : St} (hw : WS 0 ws) {out : Sps} (hg : Good F (max F (min x.1 T)) out) :
    inS s (addStretch F T ws out x) ↔ inS s out ∨ (max x.1 F ≤ s ∧ s < min x.2.1 T ∧ ∃ w ∈ ws, w.1 ≤ (s + x.2.2) % 86400 ∧ (s + x.2.2) % 86400 < w.2) := by
  unfold addStretch
  split
  · constructor
    · exact .inl
    · rintro (h | ⟨h1, h2, _⟩)
      · exact h
      · omega
  · rename_i hlt
    generalize hm : (max x.1 F + x.2.2) / 86400 * 86400 - x.2.2 = m
    rw [days_in (lo := F) (A := max x.1 F) (B := min x.2.1 T) (m := m) (by omega) hw (good_mono hg (by omega)) (nDays m (min x.2.1 T))]
    refine or_congr Iff.rfl ?_
    constructor
    · rintro ⟨j, _, w, hwm, h1, h2⟩
      have := hw.mem w hwm
      have e : (s + x.2.2) % 86400 = s - (m + 86400 * (j : Int)) := by omega
      exact ⟨by omega, by omega, w, hwm, by omega, by omega⟩
    · rintro ⟨h1, h2, w, hwm, h3, h4⟩
      obtain ⟨j, hj⟩ : ∃ j : Nat, (s + x.2.2) / 86400 - (max x.1 F + x.2.2) / 86400 = (j : Int) := Int.eq_ofNat_of_zero_le (by omega)
      have e : s - (m + 86400 * (j : Int)) = (s + x.2.2) % 86400 := by omega
      have := hw.mem w hwm
      refine ⟨j, ?_, w, hwm, by omega, by omega⟩
      unfold nDays
      omega
theorem stretch_tot {F T K : Int} {w1 w2 : Sps} (hd : ∀ A B m, dtot A B m w1 + dtot A B m w2 = K * seg A B m (m + 86400)) (o1 o2 : Sps) (x : St) :
    tot (addStretch F T w1 o1 x) + tot (addStretch F T w2 o2 x) = tot o1 + tot o2 + K * seg F T x.1 x.2.1 := by
  unfold addStretch
  split
  · have e : seg F T x.1 x.2.1 = 0 := by unfold seg; omega
    rw [e]; omega
  · rename_i hlt
    generalize hm : (max x.1 F + x.2.2) / 86400 * 86400 - x.2.2 = m
    rw [days_tot (hd (max x.1 F) (min x.2.1 T)), seg_self]
    have e : seg (max x.1 F) (min x.2.1 T) m (m + 86400 * ((nDays m (min x.2.1 T) : Nat) : Int)) = seg F T x.1 x.2.1 := by
      unfold seg nDays; omega
    rw [e, Int.sub_zero]

theorem all_good {F T : Int} {ws : Sps} (hw : WS 0 ws) : ∀ {l : List St} {c e : Int} {out : Sps}, Chain c l e → Good F (max F (min c T)) out → Good F (max F T) (addAll F T ws l out)
  | [], c, e, out, _, hg => good_mono hg (by omega)
  | x :: r, c, e, out, ⟨h1, h2, h3⟩, hg => by
    unfold addAll
    split
    · exact good_mono hg (by omega)
    · exact all_good hw h3 (stretch_good hw h2 (by rw [h1]; exact hg))
theorem all_in {F T s : Int} {ws : Sps} (hw : WS 0 ws) : ∀ {l : List St} {c e : Int} {out : Sps}, Chain c l e → Good F (max F (min c T)) out →
    (inS s (addAll F T ws l out) ↔ inS s out ∨ ∃ x ∈ l, max x.1 F ≤ s ∧ s < min x.2.1 T ∧ ∃ w ∈ ws, w.1 ≤ (s + x.2.2) % 86400 ∧ (s + x.2.2) % 86400 < w.2)
  | [], c, e, out, _, hg => by simp [addAll]
  | x :: r, c, e, out, ⟨h1, h2, h3⟩, hg => by
    unfold addAll
    split
    · rename_i hT
      constructor
      · exact .inl
      · rintro (h | ⟨y, hy, h4, h5, _⟩)
        · exact h
        · exfalso
          cases hy with
          | head => omega
          | tail _ hy => have := h3.mem y hy; omega
    · rw [all_in hw h3 (stretch_good hw h2 (by rw [h1]; exact hg)), stretch_in hw (by rw [h1]; exact hg), or_assoc]
      simp only [List.mem_cons, exists_eq_or_imp]
theorem all_tot {F T K : Int} {w1 w2 : Sps} (hd : ∀ A B m, dtot A B m w1 + dtot A B m w2 = K * seg A B m (m + 86400)) : ∀ {l : List St} {c e : Int} (o1 o2 : Sps), Chain c l e →
    tot (addAll F T w1 l o1) + tot (addAll F T w2 l o2) = tot o1 + tot o2 + K * seg F T c e
  | [], c, e, o1, o2, h => by simp only [Chain] at h; subst h; rw [seg_self]; simp [addAll]
  | x :: r, c, e, o1, o2, ⟨h1, h2, h3⟩ => by
    unfold addAll
    have hle := h3.le
    split
    · have e0 : seg F T c e = 0 := by unfold seg; omega
      rw [e0]; omega
    · rw [all_tot hd _ _ h3, stretch_tot hd, Int.add_assoc, ← Int.mul_add, h1, seg_add (by omega) hle]

/-! The law of windows. -/
theorem good_nil (lo hi : Int) : Good lo hi [] := ⟨by simp, by simp⟩
theorem spans_good_law {off : Int} {ys : Sh} {F T a b : Int} (h : valid off ys = true) (ha : inDy a = true) (hb : inDy b = true) (hFT : F ≤ T) : Good F T (spans' off ys F T a b) := by
  unfold spans'
  split
  · exact good_mono (all_good (wins_ws ha hb) (zone_chain h) (good_nil _ _)) (by omega)
  · exact good_nil _ _
theorem spans_tot {off : Int} {ys : Sh} {F T a b : Int} (h : valid off ys = true) (ha : inDy a = true) (hb : inDy b = true) (h0 : 0 ≤ F) (hFT : F ≤ T) (hT : T ≤ 10000000000) : tot (spans' off ys F T a b) + tot (spans' off ys F T b a) = (if a = b then 2 else 1) * (T - F) := by
  unfold spans'
  rw [h, ha, hb]
  by_cases hlt : F < T
  · simp only [hlt, decide_true, Bool.and_self, if_true]
    rw [all_tot (day_both ha hb) [] [] (zone_chain h)]
    have e : seg F T 0 10000000001 = T - F := by unfold seg; omega
    rw [e]; simp [tot]
  · simp only [hlt, decide_false, Bool.and_false]
    have e : T - F = 0 := by omega
    rw [e]; simp [tot]
theorem inWin_iff {a b n : Int} : inWin a b n = true ↔ ∃ w ∈ wins a b, w.1 ≤ n ∧ n < w.2 := by simp [inWin]
theorem spans_in {off : Int} {ys : Sh} {F T a b s : Int} (h : valid off ys = true) (ha : inDy a = true) (hb : inDy b = true) (h0 : 0 ≤ F) (hT : T ≤ 10000000000) (h1 : F ≤ s) (h2 : s < T) : inS s (spans' off ys F T a b) ↔ within' off ys s a b = true := by
  have hc := zone_chain h
  obtain ⟨x, hx, hx1, hx2⟩ := hc.find s (by omega) (by omega)
  have i1 : inSec s = true := by simp [inSec]; omega
  have e : (local' off ys s).2 = (s + x.2.2) % 86400 := by
    unfold local'
    rw [h, i1, hc.pick x hx s hx1 hx2]; rfl
  have e2 : within' off ys s a b = inWin a b ((s + x.2.2) % 86400) := by
    unfold within'
    rw [h, i1, ha, hb, e]; rfl
  rw [e2, inWin_iff]
  unfold spans'
  rw [h, ha, hb]
  simp only [show F < T by omega, decide_true, Bool.and_self, if_true]
  rw [all_in (wins_ws ha hb) hc (good_nil _ _)]
  constructor
  · rintro (h3 | ⟨y, hy, h4, h5, h6⟩)
    · simp [inS] at h3
    · rcases hc.cmp y hy x hx with e | e | e
      · subst e; exact h6
      · omega
      · omega
  · intro h3
    exact .inr ⟨x, hx, by omega, by omega, h3⟩
end Go.Proofs.Ytmnilbaefimalaa
