/- Laws of the calendar in plain terms: offsets, stretches, the inverse. No program in sight; the conditions stand at each theorem. -/
import Derived.Test.YtmnilbaefimalaaL3
namespace Go.Proofs.Ytmnilbaefimalaa

/-- The offset at a second: that of the last shift that has come. -/
def offAt (n : Int) : Sh → Int → Int
  | [], _ => n
  | (b, o) :: r, s => offAt (if b ≤ s then o else n) r s

theorem vf_cons {last b o : Int} {r : Sh} (h : validFrom last ((b, o) :: r) = true) : last < b ∧ b ≤ 10000000000 ∧ okOff o = true ∧ validFrom b r = true := by
  simp only [validFrom, Bool.and_eq_true, Bool.not_eq_true', decide_eq_false_iff_not] at h
  obtain ⟨⟨⟨h1, h2⟩, h3⟩, h4⟩ := h
  exact ⟨by omega, by omega, h3, h4⟩
theorem vf_gt : ∀ {ys : Sh} {last : Int}, validFrom last ys = true → ∀ y ∈ ys, last < y.1
  | [], _, _, y, hy => by simp at hy
  | (b, o) :: r, last, h, y, hy => by
    obtain ⟨h1, _, _, h4⟩ := vf_cons h
    cases hy with
    | head => exact h1
    | tail _ hy => have := vf_gt h4 y hy; omega
theorem offAt_none {s : Int} : ∀ {ys : Sh} {n : Int}, (∀ y ∈ ys, s < y.1) → offAt n ys s = n
  | [], _, _ => rfl
  | (b, o) :: r, n, h => by
    have h1 : ¬ b ≤ s := by have := h (b, o) (by simp); simp at this; omega
    simp only [offAt, if_neg h1]
    exact offAt_none (fun y hy => h y (by simp [hy]))
theorem offAt_snoc {s b o : Int} : ∀ (ys : Sh) (n : Int), offAt n (ys ++ [(b, o)]) s = if b ≤ s then o else offAt n ys s
  | [], _ => rfl
  | (c, p) :: r, n => by simp only [List.cons_append, offAt]; exact offAt_snoc r _
theorem pick_offAt {s : Int} (hs : s ≤ 10000000000) : ∀ {ys : Sh} {last a off : Int}, validFrom last ys = true → a ≤ s → pickOff s (strs a off ys) = offAt off ys s
  | [], _, _, _, _, _ => by simp [strs, pickOff, offAt]; omega
  | (b, o) :: r, last, a, off, h, ha => by
    obtain ⟨h1, h2, h3, h4⟩ := vf_cons h
    by_cases hab : a < b
    · simp only [strs, if_pos hab, pickOff]
      by_cases hsb : s < b
      · rw [if_pos hsb, offAt, if_neg (by omega)]
        exact (offAt_none (fun y hy => by have := vf_gt h4 y hy; omega)).symm
      · rw [if_neg hsb, offAt, if_pos (by omega)]
        exact pick_offAt hs h4 (by omega)
    · simp only [strs, if_neg hab, offAt, if_pos (show b ≤ s by omega)]
      exact pick_offAt hs h4 (by omega)
theorem offAt_ok {s : Int} : ∀ {ys : Sh} {last n : Int}, validFrom last ys = true → okOff n = true → okOff (offAt n ys s) = true
  | [], _, _, _, h => h
  | (b, o) :: r, last, n, hv, h => by
    obtain ⟨_, _, h3, h4⟩ := vf_cons hv
    simp only [offAt]
    split
    · exact offAt_ok h4 h3
    · exact offAt_ok h4 h
theorem valid_parts {off : Int} {ys : Sh} (h : valid off ys = true) : ys.length ≤ 40 ∧ okOff off = true ∧ validFrom (-1) ys = true := by
  have h1 := valid_len h
  unfold valid at h
  simp only [Bool.and_eq_true] at h
  exact ⟨h1, h.1.2, h.2⟩
theorem local_off {off : Int} {ys : Sh} {s : Int} (h : valid off ys = true) (h1 : 0 ≤ s) (h2 : s ≤ 10000000000) : local' off ys s = ((s + offAt off ys s) / 86400, (s + offAt off ys s) % 86400) := by
  have i1 : inSec s = true := by simp [inSec]; omega
  unfold local'
  rw [h, i1, pick_offAt h2 (valid_parts h).2.2 h1]
  rfl

/-! Steady. -/

/-- The sum of the jumps after s and not after t, and the offset now, behind the shifts that came. -/
def jmp (s t : Int) : Int × Int → Sh → Int × Int
  | st, [] => st
  | (j, n), (b, o) :: r => jmp s t (if s < b ∧ b ≤ t then j + o - n else j, o) r
theorem jmp_snoc (s t b o : Int) : ∀ (ys : Sh) (st : Int × Int), jmp s t st (ys ++ [(b, o)]) = (if s < b ∧ b ≤ t then (jmp s t st ys).1 + o - (jmp s t st ys).2 else (jmp s t st ys).1, o)
  | [], (_, _) => rfl
  | (c, p) :: r, (_, _) => by simp only [List.cons_append, jmp]; exact jmp_snoc s t b o r _
theorem jmp_eq {s t : Int} (hst : s ≤ t) : ∀ {ys : Sh} {last : Int} (j n : Int), validFrom last ys = true → (jmp s t (j, n) ys).1 = j + offAt n ys t - offAt n ys s
  | [], _, j, n, _ => by simp [jmp, offAt]
  | (b, o) :: r, last, j, n, h => by
    obtain ⟨h1, h2, h3, h4⟩ := vf_cons h
    simp only [jmp, offAt]
    rw [jmp_eq hst _ _ h4]
    by_cases hs : b ≤ s
    · rw [if_neg (by omega), if_pos hs, if_pos (by omega)]
    · have hg : ∀ y ∈ r, s < y.1 := fun y hy => by have := vf_gt h4 y hy; omega
      by_cases ht : b ≤ t
      · rw [if_pos (by omega), if_pos ht, if_neg hs, offAt_none (n := n) hg, offAt_none (n := o) hg]; omega
      · have hg' : ∀ y ∈ r, t < y.1 := fun y hy => by have := vf_gt h4 y hy; omega
        rw [if_neg (by omega), if_neg ht, if_neg hs, offAt_none (n := n) hg, offAt_none (n := o) hg, offAt_none (n := n) hg', offAt_none (n := o) hg']; omega
theorem steady_law {off : Int} {ys : Sh} {s t : Int} (h : valid off ys = true) (h0 : 0 ≤ s) (hst : s ≤ t) (h1 : t ≤ 10000000000) :
    (local' off ys t).1 * 86400 + (local' off ys t).2 - (local' off ys s).1 * 86400 - (local' off ys s).2 = t - s + (jmp s t (0, off) ys).1 := by
  rw [local_off h h0 (by omega), local_off h (by omega) h1, jmp_eq hst _ _ (valid_parts h).2.2]
  dsimp only
  omega

/-! Stretches: a chain without gaps. -/

def Chain : Int → List St → Int → Prop
  | a, [], e => a = e
  | a, x :: r, e => x.1 = a ∧ x.1 < x.2.1 ∧ Chain x.2.1 r e
theorem strs_chain : ∀ {ys : Sh} {last a off : Int}, validFrom last ys = true → a ≤ last + 1 → a ≤ 10000000000 → Chain a (strs a off ys) 10000000001
  | [], _, a, off, _, _, h => ⟨rfl, by show a < 10000000001; omega, rfl⟩
  | (b, o) :: r, last, a, off, h, h1, h2 => by
    obtain ⟨k1, k2, k3, k4⟩ := vf_cons h
    have ih := strs_chain (off := o) k4 (show b ≤ b + 1 by omega) k2
    by_cases hab : a < b
    · simp only [strs, if_pos hab]
      exact ⟨rfl, hab, ih⟩
    · simp only [strs, if_neg hab]
      obtain rfl : a = b := by omega
      exact ih
theorem Chain.le : ∀ {l : List St} {a e : Int}, Chain a l e → a ≤ e
  | [], _, _, h => by simp [Chain] at h; omega
  | x :: r, a, e, ⟨h1, h2, h3⟩ => by have := Chain.le h3; omega
theorem Chain.mem : ∀ {l : List St} {a e : Int}, Chain a l e → ∀ x ∈ l, a ≤ x.1 ∧ x.1 < x.2.1 ∧ x.2.1 ≤ e
  | [], _, _, _, x, hx => by simp at hx
  | y :: r, a, e, ⟨h1, h2, h3⟩, x, hx => by
    cases hx with
    | head => have := Chain.le h3; omega
    | tail _ hx => have := Chain.mem h3 x hx; omega
theorem Chain.pick : ∀ {l : List St} {a e : Int}, Chain a l e → ∀ x ∈ l, ∀ s : Int, x.1 ≤ s → s < x.2.1 → pickOff s l = x.2.2
  | [], _, _, _, x, hx, _, _, _ => by simp at hx
  | y :: r, a, e, ⟨h1, h2, h3⟩, x, hx, s, hs1, hs2 => by
    cases hx with
    | head => simp [pickOff, hs2]
    | tail _ hx =>
      have := Chain.mem h3 x hx
      simp only [pickOff, if_neg (show ¬ s < y.2.1 by omega)]
      exact Chain.pick h3 x hx s hs1 hs2
theorem Chain.find : ∀ {l : List St} {a e : Int}, Chain a l e → ∀ s : Int, a ≤ s → s < e → ∃ x ∈ l, x.1 ≤ s ∧ s < x.2.1
  | [], a, e, h, s, h1, h2 => by simp [Chain] at h; omega
  | y :: r, a, e, ⟨k1, k2, k3⟩, s, h1, h2 => by
    by_cases hs : s < y.2.1
    · exact ⟨y, by simp, by omega, hs⟩
    · obtain ⟨x, hx, h⟩ := Chain.find k3 s (by omega) h2
      exact ⟨x, by simp [hx], h⟩
theorem zone_chain {off : Int} {ys : Sh} (h : valid off ys = true) : Chain 0 (strs 0 off ys) 10000000001 := strs_chain (valid_parts h).2.2 (by omega) (by omega)

/-! Inverse. -/

theorem atAll_mem {d k s : Int} : ∀ {l : List St}, s ∈ atAll d k l ↔ ∃ x ∈ l, s = d * 86400 + k - x.2.2 ∧ x.1 ≤ s ∧ s < x.2.1
  | [] => by simp [atAll]
  | x :: r => by
    simp only [atAll, List.mem_append, atAll_mem (l := r), List.mem_cons, exists_eq_or_imp]
    refine or_congr ?_ Iff.rfl
    unfold atOf
    constructor
    · intro h
      split at h
      · rename_i h1
        simp at h
        subst h
        exact ⟨rfl, h1⟩
      · simp at h
    · rintro ⟨rfl, h1⟩
      rw [if_pos h1]; simp
theorem at_local {off : Int} {ys : Sh} {d k s : Int} (h : valid off ys = true) (hs : s ∈ at' off ys d k) : local' off ys s = (d, k) := by
  unfold at' at hs
  split at hs
  · rename_i h1
    simp only [Bool.and_eq_true] at h1
    have hk : 0 ≤ k ∧ k < 86400 := by simpa [inDy] using h1.2
    obtain ⟨x, hx, he, hx1, hx2⟩ := atAll_mem.1 hs
    have hc := zone_chain h
    have hm := hc.mem x hx
    have i1 : inSec s = true := by simp [inSec]; omega
    unfold local'
    rw [h, i1, hc.pick x hx s hx1 hx2]
    simp only [Bool.and_self, if_true, Prod.mk.injEq]
    omega
  · simp at hs
theorem local_at {off : Int} {ys : Sh} {s : Int} (h : valid off ys = true) (h0 : 0 ≤ s) (h1 : s ≤ 10000000000) : s ∈ at' off ys (local' off ys s).1 (local' off ys s).2 := by
  have hc := zone_chain h
  obtain ⟨x, hx, hx1, hx2⟩ := hc.find s h0 (by omega)
  have hb := local_ok (off := off) (ys := ys) s
  have i1 : inSec s = true := by simp [inSec]; omega
  have e : local' off ys s = ((s + x.2.2) / 86400, (s + x.2.2) % 86400) := by
    unfold local'
    rw [h, i1, hc.pick x hx s hx1 hx2]; rfl
  have d1 : isDy (local' off ys s).1 = true := by simp [isDy]; omega
  have d2 : inDy (local' off ys s).2 = true := by simp [inDy]; omega
  unfold at'
  rw [h, d1, d2]
  refine atAll_mem.2 ⟨x, hx, ?_, hx1, hx2⟩
  rw [e]; dsimp only; omega
theorem atAll_asc {d k : Int} : ∀ {l : List St} {a e : Int}, Chain a l e → (atAll d k l).Pairwise (· < ·)
  | [], _, _, _ => by simp [atAll]
  | x :: r, a, e, ⟨h1, h2, h3⟩ => by
    simp only [atAll, List.pairwise_append]
    refine ⟨by unfold atOf; split <;> simp, atAll_asc h3, ?_⟩
    intro u hu v hv
    obtain ⟨y, hy, _, hy1, hy2⟩ := atAll_mem.1 hv
    have := h3.mem y hy
    unfold atOf at hu
    split at hu
    · simp at hu; omega
    · simp at hu
theorem at_asc {off : Int} {ys : Sh} (d k : Int) (h : valid off ys = true) : (at' off ys d k).Pairwise (· < ·) := by
  unfold at'
  split
  · exact atAll_asc (zone_chain h)
  · simp
theorem at_step {off : Int} {ys : Sh} {d k : Int} (h : valid off ys = true) {i : Nat} (hi : i < (at' off ys d k).length) (h0 : 0 < i) : (at' off ys d k)[i - 1]?.getD 0 < (at' off ys d k)[i]?.getD 0 := by
  have hp := List.pairwise_iff_getElem.1 (at_asc d k h) (i - 1) i (by omega) hi (by omega)
  rw [List.getElem?_eq_getElem hi, List.getElem?_eq_getElem (by omega)]
  exact hp
end Go.Proofs.Ytmnilbaefimalaa
