/-
  Plain words on lists of numbers and on sets: no Go, no program in sight.
-/
namespace Go.Proofs.Ytokeejachclpeaa

/-- The number at place k, 0 beyond the end. (A plain def: the walk's simp does not look inside.) -/
def gv (v : List Int) (k : Nat) : Int := v.getD k 0
theorem gv_get {v : List Int} {k : Nat} (h : k < v.length) : gv v k = v[k] := by simp [gv, List.getD, List.getElem?_eq_getElem h]
theorem gv_mem {v : List Int} {k : Nat} (h : k < v.length) : gv v k ∈ v := by rw [gv_get h]; exact List.getElem_mem h
theorem take_gv {v : List Int} {k : Nat} (h : k < v.length) : v.take (k + 1) = v.take k ++ [gv v k] := by
  rw [List.take_add_one, List.getElem?_eq_getElem h, gv_get h]; rfl

/-- Is the number from l to h? -/
def inR (x l h : Int) : Bool := decide (l ≤ x ∧ x ≤ h)
/-- Are all numbers from l to h? -/
def allIn (v : List Int) (l h : Int) : Bool := v.all fun x => inR x l h
/-- Is element k in the set s? -/
def hasB (s k : Nat) : Bool := s.testBit k

theorem inR_true {x l h : Int} (hh : inR x l h = true) : l ≤ x ∧ x ≤ h := by simpa [inR] using hh
theorem allIn_snoc {v : List Int} {l h : Int} {k : Nat} (hk : k < v.length) : allIn (v.take (k+1)) l h = (allIn (v.take k) l h && inR (gv v k) l h) := by
  rw [take_gv hk]; simp [allIn]
theorem allIn_false {v : List Int} {l h : Int} {k : Nat} (hk : k < v.length) (hf : inR (gv v k) l h = false) : allIn v l h = false := by
  unfold allIn; rw [List.all_eq_false]; exact ⟨gv v k, gv_mem hk, by simpa using hf⟩
theorem allIn_gv {v : List Int} {l h : Int} {k : Nat} (hk : k < v.length) (ha : allIn v l h = true) : l ≤ gv v k ∧ gv v k ≤ h :=
  inR_true ((List.all_eq_true.1 ha) _ (gv_mem hk))

/-- Compare a/b with c/d. -/
def cmpR (a b c d : Int) : Int :=
  if inR a 0 100000 && inR b 1 100000 && inR c 0 100000 && inR d 1 100000 then (if a * d < c * b then -1 else if a * d > c * b then 1 else 0) else -2

/-- At most five numbers from -r to r. -/
def vecOk (r : Int) (v : List Int) : Bool := decide (v.length ≤ 5) && allIn v (-r) r
theorem vecOk_true {r : Int} {v : List Int} (h : vecOk r v = true) : v.length ≤ 5 ∧ allIn v (-r) r = true := by simpa [vecOk] using h
theorem vecOk_gv {r : Int} {v : List Int} (h : vecOk r v = true) {k : Nat} (hk : k < v.length) : -r ≤ gv v k ∧ gv v k ≤ r := allIn_gv hk (vecOk_true h).2
/-- The sum of the negative numbers. -/
def negSum (v : List Int) : Int := (v.map fun x => min x 0).sum
/-- What NegativePart gives. -/
def negR (v : List Int) : Int := if vecOk 5000 v then negSum v else 0
theorem negSum_snoc {v : List Int} {k : Nat} (hk : k < v.length) : negSum (v.take (k + 1)) = negSum (v.take k) + min (gv v k) 0 := by
  rw [take_gv hk]; simp [negSum]
theorem negSum_bd {v : List Int} (h : vecOk 5000 v = true) (k : Nat) : -25000 ≤ negSum (v.take k) ∧ negSum (v.take k) ≤ 0 := by
  have h5 := (vecOk_true h).1
  have key : ∀ j : Nat, -5000 * (j : Int) ≤ negSum (v.take j) ∧ negSum (v.take j) ≤ 0 := by
    intro j
    induction j with
    | zero => simp [negSum]
    | succ j ih =>
      by_cases hj : j < v.length
      · rw [negSum_snoc hj]
        have := vecOk_gv h hj
        omega
      · rw [List.take_of_length_le (by omega)] at ih ⊢
        omega
  by_cases hk : k ≤ 5
  · have := key k; omega
  · have := key 5
    rw [List.take_of_length_le (by omega)] at this ⊢
    omega
end Go.Proofs.Ytokeejachclpeaa
