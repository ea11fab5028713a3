/- The calendar in plain terms: what the functions of package calendar compute, as functions on numbers and lists. No condition: these are definitions and their first consequences. -/
namespace Go.Proofs.Ytmnilbaefimalaa

abbrev Sh := List (Int × Int)
abbrev St := Int × Int × Int

def okOff (o : Int) : Bool := decide (-50400 ≤ o ∧ o ≤ 50400)
def inSec (s : Int) : Bool := decide (0 ≤ s ∧ s ≤ 10000000000)
def isDy (d : Int) : Bool := decide (-1 ≤ d ∧ d ≤ 115741)
def inDy (s : Int) : Bool := decide (0 ≤ s ∧ s < 86400)

def validFrom (last : Int) : Sh → Bool
  | [] => true
  | (a, o) :: r => !decide (a ≤ last) && !decide (10000000000 < a) && okOff o && validFrom a r
def valid (off : Int) (ys : Sh) : Bool := !decide (40 < ys.length) && okOff off && validFrom (-1) ys

/-- The stretches of constant offset. -/
def strs (a off : Int) : Sh → List St
  | [] => [(a, 10000000001, off)]
  | (b, o) :: r => if a < b then (a, b, off) :: strs b o r else strs b o r

def pickOff (s : Int) : List St → Int
  | [] => 0
  | x :: r => if s < x.2.1 then x.2.2 else pickOff s r

def local' (off : Int) (ys : Sh) (s : Int) : Int × Int :=
  if valid off ys && inSec s then ((s + pickOff s (strs 0 off ys)) / 86400, (s + pickOff s (strs 0 off ys)) % 86400) else (0, 0)

def lenOf (day : Int) (x : St) : Int := max 0 (min x.2.1 ((day + 1) * 86400 - x.2.2) - max x.1 (day * 86400 - x.2.2))
def sumLen (day : Int) : List St → Int
  | [] => 0
  | x :: r => lenOf day x + sumLen day r
def length' (off : Int) (ys : Sh) (day : Int) : Int := if valid off ys && isDy day then sumLen day (strs 0 off ys) else 0

def atOf (day sec : Int) (x : St) : List Int := if x.1 ≤ day * 86400 + sec - x.2.2 ∧ day * 86400 + sec - x.2.2 < x.2.1 then [day * 86400 + sec - x.2.2] else []
def atAll (day sec : Int) : List St → List Int
  | [] => []
  | x :: r => atOf day sec x ++ atAll day sec r
def at' (off : Int) (ys : Sh) (day sec : Int) : List Int := if valid off ys && isDy day && inDy sec then atAll day sec (strs 0 off ys) else []

/-- The parts of a day that belong to a window. -/
def wins (a b : Int) : List (Int × Int) := if a < b then [(a, b)] else if b < a then [(0, b), (a, 86400)] else [(0, 86400)]
def inWin (a b n : Int) : Bool := (wins a b).any fun w => decide (w.1 ≤ n ∧ n < w.2)
def within' (off : Int) (ys : Sh) (s a b : Int) : Bool := valid off ys && inSec s && inDy a && inDy b && inWin a b (local' off ys s).2

theorem valid_stop {off last u v : Int} {xs r : Sh} (h : validFrom (-1) xs = validFrom last ((u, v) :: r)) (hb : u ≤ last ∨ 10000000000 < u ∨ okOff v = false) : valid off xs = false := by
  unfold valid
  rw [h]
  unfold validFrom
  rcases hb with hb | hb | hb
  · simp [hb]
  · simp [hb]
  · simp [hb]
theorem valid_go {last u v : Int} {xs r : Sh} (h : validFrom (-1) xs = validFrom last ((u, v) :: r)) (h1 : last < u) (h2 : u ≤ 10000000000) (h3 : okOff v = true) : validFrom (-1) xs = validFrom u r := by
  rw [h]
  conv => lhs; unfold validFrom
  have e1 : decide (u ≤ last) = false := by simp; omega
  have e2 : decide (10000000000 < u) = false := by simp; omega
  simp [e1, e2, h3]
theorem valid_end {off last : Int} {xs : Sh} (h : validFrom (-1) xs = validFrom last []) (h1 : xs.length ≤ 40) (h2 : okOff off = true) : valid off xs = true := by
  unfold valid
  rw [h, h2]
  simp [validFrom]; omega

/-- A span is added behind a list: an empty one is left out, one that begins where the last one ends is joined with it. -/
def addSpan (out : List (Int × Int)) (a b : Int) : List (Int × Int) :=
  if b ≤ a then out else
  match out.getLast? with
  | some l => if l.2 = a then out.dropLast ++ [(l.1, b)] else out ++ [(a, b)]
  | none => out ++ [(a, b)]

/-- The windows of the day that begins at m, as far as they lie from A to B. -/
def addDay (A B m : Int) (ws out : List (Int × Int)) : List (Int × Int) := ws.foldl (fun o w => addSpan o (max A (m + w.1)) (min B (m + w.2))) out
def addDays (A B m : Int) (ws out : List (Int × Int)) : Nat → List (Int × Int)
  | 0 => out
  | j + 1 => addDay A B (m + 86400 * (j : Int)) ws (addDays A B m ws out j)
/-- How many days from m on begin ahead of B. -/
def nDays (m B : Int) : Nat := ((B - m + 86399) / 86400).toNat
def addStretch (F T : Int) (ws out : List (Int × Int)) (x : St) : List (Int × Int) :=
  if min x.2.1 T ≤ max x.1 F then out else
  addDays (max x.1 F) (min x.2.1 T) ((max x.1 F + x.2.2) / 86400 * 86400 - x.2.2) ws out (nDays ((max x.1 F + x.2.2) / 86400 * 86400 - x.2.2) (min x.2.1 T))
def addAll (F T : Int) (ws : List (Int × Int)) : List St → List (Int × Int) → List (Int × Int)
  | [], out => out
  | x :: r, out => if T ≤ x.1 then out else addAll F T ws r (addStretch F T ws out x)
def spans' (off : Int) (ys : Sh) (F T a b : Int) : List (Int × Int) := if valid off ys && inDy a && inDy b && decide (F < T) then addAll F T (wins a b) (strs 0 off ys) [] else []

theorem wins_bound {a b : Int} {k : Nat} {p q : Int} (h : (wins a b)[k]? = some (p, q)) (ha : inDy a = true) (hb : inDy b = true) : 0 ≤ p ∧ p ≤ 86400 ∧ 0 ≤ q ∧ q ≤ 86400 := by
  have ha' : 0 ≤ a ∧ a < 86400 := by simpa [inDy] using ha
  have hb' : 0 ≤ b ∧ b < 86400 := by simpa [inDy] using hb
  have hm := List.mem_of_getElem? h
  unfold wins at hm
  split at hm
  · simp at hm; omega
  · split at hm
    · simp at hm; omega
    · simp at hm; omega

/-- The stretches that have come, each added. -/
def addPre (F T : Int) (ws : List (Int × Int)) (pre : List St) : List (Int × Int) := pre.foldl (addStretch F T ws) []
/-- All stretches of the list begin ahead of T. -/
def AllAhead (T : Int) (l : List St) : Prop := ∀ x ∈ l, x.1 < T
theorem allAhead_nil (T : Int) : AllAhead T [] := by intro x hx; simp at hx
theorem allAhead_snoc {T : Int} {l : List St} {x : St} (h : AllAhead T l) (hx : x.1 < T) : AllAhead T (l ++ [x]) := by
  intro y hy
  simp at hy
  rcases hy with hy | rfl
  · exact h y hy
  · exact hx
theorem addAll_ahead {F T : Int} {ws : List (Int × Int)} : ∀ {pre : List St} (r : List St) (out : List (Int × Int)), AllAhead T pre → addAll F T ws (pre ++ r) out = addAll F T ws r (pre.foldl (addStretch F T ws) out)
  | [], r, out, _ => rfl
  | x :: p, r, out, h => by
    have hx : ¬ T ≤ x.1 := by have := h x (by simp); omega
    simp only [List.cons_append, addAll, if_neg hx, List.foldl_cons]
    exact addAll_ahead r _ (fun y hy => h y (by simp [hy]))
theorem addAll_done {F T : Int} {ws : List (Int × Int)} {l : List St} (h : AllAhead T l) : addAll F T ws l [] = addPre F T ws l := by
  have := addAll_ahead (F := F) (ws := ws) [] [] h
  simpa [addAll, addPre] using this
theorem addAll_stop {F T : Int} {ws : List (Int × Int)} {pre xs : List St} {x : St} (h : AllAhead T pre) (hp : pre ++ [x] <+: xs) (hx : T ≤ x.1) : addAll F T ws xs [] = addPre F T ws pre := by
  obtain ⟨r, rfl⟩ := hp
  rw [List.append_assoc, addAll_ahead _ _ h]
  simp [addAll, hx, addPre]
theorem addPre_snoc (F T : Int) (ws : List (Int × Int)) (pre : List St) (x : St) : addPre F T ws (pre ++ [x]) = addStretch F T ws (addPre F T ws pre) x := by simp [addPre]

theorem addSpan_length (out : List (Int × Int)) (a b : Int) : (addSpan out a b).length ≤ out.length + 1 := by
  unfold addSpan
  split
  · omega
  · split
    · split
      · simp
      · simp
    · simp
theorem addDay_length (A B m : Int) : ∀ (ws out : List (Int × Int)), (addDay A B m ws out).length ≤ out.length + ws.length
  | [], out => by simp [addDay]
  | w :: r, out => by
    have h1 := addDay_length A B m r (addSpan out (max A (m + w.1)) (min B (m + w.2)))
    have h2 := addSpan_length out (max A (m + w.1)) (min B (m + w.2))
    simp only [addDay, List.foldl_cons, List.length_cons] at h1 ⊢
    omega
theorem addDays_length (A B m : Int) (ws out : List (Int × Int)) : ∀ j : Nat, (addDays A B m ws out j).length ≤ out.length + j * ws.length
  | 0 => by simp [addDays]
  | j + 1 => by
    have h1 := addDays_length A B m ws out j
    have h2 := addDay_length A B (m + 86400 * (j : Int)) ws (addDays A B m ws out j)
    simp only [addDays]
    rw [Nat.succ_mul]
    omega
theorem nDays_le {m B : Int} (h : B - m ≤ 1100000) : nDays m B ≤ 14 := by unfold nDays; omega
theorem nDays_iff {m B : Int} {j : Nat} (h : j ≤ nDays m B) : m + 86400 * (j : Int) < B ↔ j < nDays m B := by unfold nDays at *; omega
theorem addStretch_length {F T : Int} (ws out : List (Int × Int)) (x : St) (hw : ws.length ≤ 2) (hT : T ≤ F + 1000000) : (addStretch F T ws out x).length ≤ out.length + 28 := by
  unfold addStretch
  split
  · omega
  · have h1 := addDays_length (max x.1 F) (min x.2.1 T) ((max x.1 F + x.2.2) / 86400 * 86400 - x.2.2) ws out (nDays ((max x.1 F + x.2.2) / 86400 * 86400 - x.2.2) (min x.2.1 T))
    have h2 := nDays_le (m := (max x.1 F + x.2.2) / 86400 * 86400 - x.2.2) (B := min x.2.1 T) (by omega)
    have h3 := Nat.mul_le_mul h2 hw
    omega
theorem addPre_length {F T : Int} (ws : List (Int × Int)) (hw : ws.length ≤ 2) (hT : T ≤ F + 1000000) (pre : List St) : (addPre F T ws pre).length ≤ 28 * pre.length := by
  suffices h : ∀ (pre : List St) (out : List (Int × Int)), (pre.foldl (addStretch F T ws) out).length ≤ out.length + 28 * pre.length by
    have := h pre []; simpa [addPre] using this
  intro pre
  induction pre with
  | nil => intro out; simp
  | cons x r ih =>
    intro out
    have h1 := ih (addStretch F T ws out x)
    have h2 := addStretch_length ws out x hw hT
    simp only [List.foldl_cons, List.length_cons]
    omega

/-! Bounds of valid zones. -/

theorem okOff_iff {o : Int} : okOff o = true ↔ -50400 ≤ o ∧ o ≤ 50400 := by simp [okOff]

theorem strs_bounds {off : Int} {ys : Sh} : ∀ {last a : Int}, validFrom last ys = true → okOff off = true → -1 ≤ last → 0 ≤ a → a ≤ 10000000000 → ∀ x ∈ strs a off ys, 0 ≤ x.1 ∧ x.1 ≤ 10000000000 ∧ 0 ≤ x.2.1 ∧ x.2.1 ≤ 10000000001 ∧ -50400 ≤ x.2.2 ∧ x.2.2 ≤ 50400 := by
  induction ys generalizing off with
  | nil => intro last a _ ho hl h0 h1 x hx; simp [strs] at hx; subst hx; have := okOff_iff.1 ho; simp; omega
  | cons y r ih =>
    obtain ⟨b, o⟩ := y
    intro last a hv ho hl h0 h1 x hx
    simp only [validFrom, Bool.and_eq_true, Bool.not_eq_true', decide_eq_false_iff_not] at hv
    obtain ⟨⟨⟨hv1, hv2⟩, hv3⟩, hv4⟩ := hv
    have h2 := okOff_iff.1 ho
    unfold strs at hx
    split at hx
    · cases hx with
      | head => simp; omega
      | tail _ hx => exact ih hv4 hv3 (by omega) (by omega) (by omega) x hx
    · exact ih hv4 hv3 (by omega) (by omega) (by omega) x hx

theorem strs_ok {off : Int} {ys : Sh} (hv : valid off ys = true) : ∀ x ∈ strs 0 off ys, 0 ≤ x.1 ∧ x.1 ≤ 10000000000 ∧ 0 ≤ x.2.1 ∧ x.2.1 ≤ 10000000001 ∧ -50400 ≤ x.2.2 ∧ x.2.2 ≤ 50400 := by
  unfold valid at hv
  simp only [Bool.and_eq_true] at hv
  exact strs_bounds hv.2 hv.1.2 (by omega) (by omega) (by omega)

theorem pickOff_bound {s : Int} : ∀ {l : List St}, (∀ x ∈ l, -50400 ≤ x.2.2 ∧ x.2.2 ≤ 50400) → -50400 ≤ pickOff s l ∧ pickOff s l ≤ 50400
  | [], _ => by simp [pickOff]
  | x :: r, h => by
    unfold pickOff
    split
    · exact h x (by simp)
    · exact pickOff_bound (fun y hy => h y (by simp [hy]))

theorem pickOff_append {s : Int} {pre : List St} (h : ∀ x ∈ pre, ¬ s < x.2.1) (r : List St) : pickOff s (pre ++ r) = pickOff s r := by
  induction pre with
  | nil => rfl
  | cons x p ih => simp [pickOff, h x (by simp), ih (fun y hy => h y (by simp [hy]))]

theorem pickOff_none {s : Int} {l : List St} (h : ∀ x ∈ l, ¬ s < x.2.1) : pickOff s l = 0 := by
  have := pickOff_append h []
  simpa [pickOff] using this

/-- No stretch of the list reaches beyond s. -/
def NoneYet (s : Int) (l : List St) : Prop := ∀ x ∈ l, ¬ s < x.2.1
theorem noneYet_nil (s : Int) : NoneYet s [] := by intro x hx; simp at hx
theorem noneYet_snoc {s : Int} {l : List St} {x : St} (h : NoneYet s l) (hx : x.2.1 ≤ s) : NoneYet s (l ++ [x]) := by
  intro y hy
  simp at hy
  rcases hy with hy | rfl
  · exact h y hy
  · omega
theorem pickOff_hit {s : Int} {pre xs : List St} {x : St} (h : NoneYet s pre) (hp : pre ++ [x] <+: xs) (hx : s < x.2.1) : pickOff s xs = x.2.2 := by
  obtain ⟨r, rfl⟩ := hp
  rw [List.append_assoc, pickOff_append h]
  simp [pickOff, hx]

theorem sumLen_append (day : Int) (p r : List St) : sumLen day (p ++ r) = sumLen day p + sumLen day r := by
  induction p with
  | nil => simp [sumLen]
  | cons x p ih => simp [sumLen, ih]; omega

theorem atAll_append (day sec : Int) (p r : List St) : atAll day sec (p ++ r) = atAll day sec p ++ atAll day sec r := by
  induction p with
  | nil => simp [atAll]
  | cons x p ih => simp [atAll, ih]

theorem atAll_hit {day sec : Int} {x : St} (p : List St) (h1 : x.1 ≤ day * 86400 + sec - x.2.2) (h2 : day * 86400 + sec - x.2.2 < x.2.1) : atAll day sec (p ++ [x]) = atAll day sec p ++ [day * 86400 + sec - x.2.2] := by
  rw [atAll_append]; simp [atAll, atOf, h1, h2]
theorem atAll_miss {day sec : Int} {x : St} (p : List St) (h : ¬ (x.1 ≤ day * 86400 + sec - x.2.2 ∧ day * 86400 + sec - x.2.2 < x.2.1)) : atAll day sec (p ++ [x]) = atAll day sec p := by
  rw [atAll_append]; simp only [atAll, atOf, if_neg h]; simp
theorem atAll_length (day sec : Int) : ∀ l : List St, (atAll day sec l).length ≤ l.length
  | [] => by simp [atAll]
  | x :: r => by
    have := atAll_length day sec r
    simp only [atAll, atOf, List.length_append, List.length_cons]
    split <;> simp <;> omega

theorem lenOf_bound {day : Int} {x : St} (_h : 0 ≤ x.1 ∧ x.1 ≤ 10000000000 ∧ 0 ≤ x.2.1 ∧ x.2.1 ≤ 10000000001 ∧ -50400 ≤ x.2.2 ∧ x.2.2 ≤ 50400) : 0 ≤ lenOf day x ∧ lenOf day x ≤ 86400 := by
  unfold lenOf; omega

theorem sumLen_bound {day : Int} : ∀ {l : List St}, (∀ x ∈ l, 0 ≤ x.1 ∧ x.1 ≤ 10000000000 ∧ 0 ≤ x.2.1 ∧ x.2.1 ≤ 10000000001 ∧ -50400 ≤ x.2.2 ∧ x.2.2 ≤ 50400) → 0 ≤ sumLen day l ∧ sumLen day l ≤ 86400 * (l.length : Int)
  | [], _ => by simp [sumLen]
  | x :: r, h => by
    have h1 := lenOf_bound (day := day) (h x (by simp))
    have h2 := sumLen_bound (day := day) (l := r) (fun y hy => h y (by simp [hy]))
    simp only [sumLen, List.length_cons]
    omega

theorem strs_length : ∀ (ys : Sh) (a off : Int), (strs a off ys).length ≤ ys.length + 1
  | [], _, _ => by simp [strs]
  | (b, o) :: r, a, off => by
    unfold strs
    have := strs_length r b o
    split <;> simp <;> omega

theorem valid_len {off : Int} {ys : Sh} (hv : valid off ys = true) : ys.length ≤ 40 := by
  unfold valid at hv
  simp only [Bool.and_eq_true, Bool.not_eq_true', decide_eq_false_iff_not] at hv
  omega

theorem local_ok {off : Int} {ys : Sh} (s : Int) : -1 ≤ (local' off ys s).1 ∧ (local' off ys s).1 ≤ 115741 ∧ 0 ≤ (local' off ys s).2 ∧ (local' off ys s).2 < 86400 := by
  unfold local'
  split
  · rename_i h
    simp only [Bool.and_eq_true] at h
    have hb := pickOff_bound (s := s) (fun x hx => (strs_ok h.1 x hx).2.2.2.2)
    have hs : 0 ≤ s ∧ s ≤ 10000000000 := by simpa [inSec] using h.2
    dsimp only
    omega
  · simp

end Go.Proofs.Ytmnilbaefimalaa
