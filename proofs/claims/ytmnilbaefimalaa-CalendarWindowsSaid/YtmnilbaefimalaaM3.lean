/- Laws of the calendar in plain terms: the lengths of days in a row. No program in sight; the conditions stand at each theorem. -/
import Derived.Test.YtmnilbaefimalaaM2
namespace Go.Proofs.Ytmnilbaefimalaa

theorem strs_edges : ∀ (ys : Sh) (a off : Int), ∀ x ∈ strs a off ys, (x.1 = a ∨ ∃ y ∈ ys, y.1 = x.1) ∧ (x.2.1 = 10000000001 ∨ ∃ y ∈ ys, y.1 = x.2.1)
  | [], a, off, x, hx => by simp [strs] at hx; subst hx; exact ⟨.inl rfl, .inl rfl⟩
  | (b, o) :: r, a, off, x, hx => by
    have ih : ∀ x ∈ strs b o r, (x.1 = a ∨ ∃ y ∈ ((b, o) :: r), y.1 = x.1) ∧ (x.2.1 = 10000000001 ∨ ∃ y ∈ ((b, o) :: r), y.1 = x.2.1) := by
      intro x hx
      obtain ⟨h1, h2⟩ := strs_edges r b o x hx
      refine ⟨?_, ?_⟩
      · rcases h1 with h1 | ⟨y, hy, h1⟩
        · exact .inr ⟨(b, o), by simp, h1.symm⟩
        · exact .inr ⟨y, by simp [hy], h1⟩
      · rcases h2 with h2 | ⟨y, hy, h2⟩
        · exact .inl h2
        · exact .inr ⟨y, by simp [hy], h2⟩
    unfold strs at hx
    split at hx
    · cases hx with
      | head => exact ⟨.inl rfl, .inr ⟨(b, o), by simp, rfl⟩⟩
      | tail _ hx => exact ih x hx
    · exact ih x hx
theorem Chain.cmp : ∀ {l : List St} {a e : Int}, Chain a l e → ∀ x ∈ l, ∀ y ∈ l, x = y ∨ x.2.1 ≤ y.1 ∨ y.2.1 ≤ x.1
  | [], _, _, _, x, hx, _, _ => by simp at hx
  | z :: r, a, e, ⟨h1, h2, h3⟩, x, hx, y, hy => by
    cases hx with
    | head =>
      cases hy with
      | head => exact .inl rfl
      | tail _ hy => have := h3.mem y hy; exact .inr (.inl (by omega))
    | tail _ hx =>
      cases hy with
      | head => have := h3.mem x hx; exact .inr (.inr (by omega))
      | tail _ hy => exact Chain.cmp h3 x hx y hy

/-- The part of a stretch from one local midnight to another. -/
def spanOf (f l : Int) (x : St) : Int := max 0 (min x.2.1 (l * 86400 - x.2.2) - max x.1 (f * 86400 - x.2.2))
def spanSum (f l : Int) : List St → Int
  | [] => 0
  | x :: r => spanOf f l x + spanSum f l r
theorem spanSum_same (f : Int) : ∀ {p : List St}, (∀ x ∈ p, x.1 < x.2.1) → spanSum f f p = 0
  | [], _ => rfl
  | x :: r, h => by
    have h1 := h x (by simp)
    have ih := spanSum_same f (p := r) (fun y hy => h y (by simp [hy]))
    simp only [spanSum, ih, spanOf]
    omega
theorem spanSum_next {f l : Int} (hf : f ≤ l) : ∀ {p : List St}, (∀ x ∈ p, x.1 < x.2.1) → spanSum f l p + sumLen l p = spanSum f (l + 1) p
  | [], _ => rfl
  | x :: r, h => by
    have h1 := h x (by simp)
    have ih := spanSum_next hf (p := r) (fun y hy => h y (by simp [hy]))
    simp only [spanSum, sumLen, spanOf, lenOf]
    omega
def sumDays (off : Int) (ys : Sh) (f : Int) : Nat → Int
  | 0 => 0
  | n + 1 => sumDays off ys f n + length' off ys (f + (n : Int))
theorem sumDays_eq {off : Int} {ys : Sh} (h : valid off ys = true) {f : Int} (h0 : 0 ≤ f) : ∀ n : Nat, f + (n : Int) ≤ 1000 → sumDays off ys f n = spanSum f (f + (n : Int)) (strs 0 off ys)
  | 0, _ => by
    have := spanSum_same f (fun x hx => ((zone_chain h).mem x hx).2.1)
    simp only [sumDays, Int.natCast_zero, Int.add_zero]
    exact this.symm
  | n + 1, hn => by
    have d1 : isDy (f + (n : Int)) = true := by simp [isDy]; omega
    have hl : length' off ys (f + (n : Int)) = sumLen (f + (n : Int)) (strs 0 off ys) := by unfold length'; rw [h, d1]; rfl
    have := spanSum_next (f := f) (l := f + (n : Int)) (by omega) (fun x hx => ((zone_chain h).mem x hx).2.1)
    simp only [sumDays]
    rw [sumDays_eq h h0 n (by omega), hl, this]
    congr 1
    omega
def cutSum (a b : Int) : List St → Int
  | [] => 0
  | x :: r => max 0 (min x.2.1 b - max x.1 a) + cutSum a b r
theorem cutSum_chain {a b : Int} (hab : a ≤ b) : ∀ {l : List St} {c e : Int}, Chain c l e → cutSum a b l = max 0 (min e b - max c a)
  | [], c, e, h => by simp only [Chain] at h; subst h; simp only [cutSum]; omega
  | x :: r, c, e, ⟨h1, h2, h3⟩ => by
    have := h3.le
    simp only [cutSum, cutSum_chain hab h3]
    omega
theorem span_cut {f l a b : Int} : ∀ {p : List St}, (∀ x ∈ p, (max x.1 (f * 86400 - x.2.2) = max x.1 a ∨ (x.2.1 ≤ f * 86400 - x.2.2 ∧ x.2.1 ≤ a)) ∧ (min x.2.1 (l * 86400 - x.2.2) = min x.2.1 b ∨ (l * 86400 - x.2.2 ≤ x.1 ∧ b ≤ x.1))) → spanSum f l p = cutSum a b p
  | [], _ => rfl
  | x :: r, h => by
    have h1 := h x (by simp)
    have ih := span_cut (p := r) (fun y hy => h y (by simp [hy]))
    simp only [spanSum, cutSum, ih, spanOf]
    omega

theorem days_law {off : Int} {ys : Sh} (h : valid off ys = true) {f : Int} {n : Nat} (h0 : 0 ≤ f) (h1 : f + (n : Int) ≤ 1000) {a b : Int} (ha : at' off ys f 0 = [a]) (hb : at' off ys (f + (n : Int)) 0 = [b])
    (hya : ∀ y ∈ ys, ¬ (a - 200000 < y.1 ∧ y.1 < a + 200000)) (hyb : ∀ y ∈ ys, ¬ (b - 200000 < y.1 ∧ y.1 < b + 200000)) : sumDays off ys f n = b - a := by
  have hc := zone_chain h
  have hok := strs_ok h
  have he := strs_edges ys 0 off
  have am : a ∈ at' off ys f 0 := by rw [ha]; simp
  have bm : b ∈ at' off ys (f + (n : Int)) 0 := by rw [hb]; simp
  rw [sumDays_eq h h0 n h1]
  generalize hl : f + (n : Int) = l at *
  unfold at' at am bm
  split at am
  case isFalse => simp at am
  split at bm
  case isFalse => simp at bm
  obtain ⟨A, hA, ea, a1, a2⟩ := atAll_mem.1 am
  obtain ⟨B, hB, eb, b1, b2⟩ := atAll_mem.1 bm
  have kA := hok A hA
  have kB := hok B hB
  have mA := hc.mem A hA
  have mB := hc.mem B hB
  obtain ⟨eA1, eA2⟩ := he A hA
  obtain ⟨eB1, eB2⟩ := he B hB
  have fA1 : A.1 = 0 ∨ A.1 ≤ a - 200000 := by
    rcases eA1 with e | ⟨y, hy, e⟩
    · exact .inl e
    · have := hya y hy; exact .inr (by omega)
  have fA2 : A.2.1 = 10000000001 ∨ a + 200000 ≤ A.2.1 := by
    rcases eA2 with e | ⟨y, hy, e⟩
    · exact .inl e
    · have := hya y hy; exact .inr (by omega)
  have fB1 : B.1 = 0 ∨ B.1 ≤ b - 200000 := by
    rcases eB1 with e | ⟨y, hy, e⟩
    · exact .inl e
    · have := hyb y hy; exact .inr (by omega)
  have fB2 : B.2.1 = 10000000001 ∨ b + 200000 ≤ B.2.1 := by
    rcases eB2 with e | ⟨y, hy, e⟩
    · exact .inl e
    · have := hyb y hy; exact .inr (by omega)
  have hab : a ≤ b := by
    rcases hc.cmp A hA B hB with e | e | e
    · subst e; omega
    · omega
    · omega
  rw [span_cut (a := a) (b := b), cutSum_chain hab hc]
  · omega
  · intro x hx
    have kx := hok x hx
    have mx := hc.mem x hx
    refine ⟨?_, ?_⟩
    · rcases hc.cmp x hx A hA with e | e | e
      · subst e; exact .inl (by omega)
      · exact .inr (by omega)
      · exact .inl (by omega)
    · rcases hc.cmp x hx B hB with e | e | e
      · subst e; exact .inl (by omega)
      · exact .inl (by omega)
      · exact .inr (by omega)
end Go.Proofs.Ytmnilbaefimalaa
