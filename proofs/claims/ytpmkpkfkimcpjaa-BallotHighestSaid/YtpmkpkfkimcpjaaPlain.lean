/- The plain words of chapter 06: ballots, how two stand, the greatest of a list, majorities; and what is true of them. No program here. -/
namespace Go.Proofs.Ytpmkpkfkimcpjaa

def lifeB (n i : Int) : Bool := decide (1 ≤ n) && decide (n ≤ 15) && decide (1 ≤ i) && decide (i ≤ 4611686018427387903)
def cmpI (a b : Int) : Int := if a < b then -1 else if b < a then 1 else 0
def orI (a b c : Int) : Int := if a ≠ 0 then a else if b ≠ 0 then b else c
structure Bal where
  r : Int
  n : Int
  i : Int
  deriving DecidableEq
def cmpB (a b : Bal) : Int := orI (cmpI a.r b.r) (cmpI a.n b.n) (cmpI a.i b.i)
def Bal.zero : Bal := ⟨0, 0, 0⟩
def gstep (x : Option Bal) (y : Bal) : Option Bal := match x with | none => some y | some x => if cmpB x y < 0 then some y else some x
def greatO (l : List Bal) : Option Bal := l.foldl gstep none
def great (l : List Bal) : Bal := (greatO l).getD Bal.zero
theorem gstep_snoc (l : List Bal) (y : Bal) : greatO (l ++ [y]) = gstep (greatO l) y := by simp [greatO, List.foldl_append]
theorem greatO_some : ∀ (l : List Bal), l ≠ [] → ∃ x, greatO l = some x := by
  intro l hl
  obtain ⟨l', y, rfl⟩ : ∃ l' y, l = l' ++ [y] := ⟨l.dropLast, l.getLast hl, (List.dropLast_concat_getLast hl).symm⟩
  rw [gstep_snoc]; unfold gstep; split
  · exact ⟨_, rfl⟩
  · split <;> exact ⟨_, rfl⟩
theorem great_snoc_yes (l : List Bal) (y : Bal) (h : l = [] ∨ cmpB (great l) y < 0) : great (l ++ [y]) = y := by
  unfold great at *; rw [gstep_snoc]
  by_cases hl : l = []
  · subst hl; rfl
  · obtain ⟨x, hx⟩ := greatO_some l hl
    rw [hx] at h ⊢
    simp only [gstep, Option.getD_some] at h ⊢
    rw [if_pos (h.resolve_left hl)]; rfl
theorem great_snoc_no (l : List Bal) (y : Bal) (h : l ≠ []) (h2 : ¬ cmpB (great l) y < 0) : great (l ++ [y]) = great l := by
  unfold great at *; rw [gstep_snoc]
  obtain ⟨x, hx⟩ := greatO_some l h
  rw [hx] at h2 ⊢
  simp only [gstep, Option.getD_some] at h2 ⊢
  rw [if_neg h2]; rfl
theorem great_nil : great [] = Bal.zero := rfl

/-- The next ballot: the ballot and the error's number. -/
def nextB (n i : Int) (l : List Bal) : Bal × Int :=
  if lifeB n i = false then (Bal.zero, 1) else if (great l).r ≥ 4611686018427387903 then (Bal.zero, 3) else (⟨(great l).r + 1, n, i⟩, 0)

def majI (n : Int) : Int := if n < 1 then 0 else n / 2 + 1
/-- The ones of a list that are in 1..n, each once, in the order in which they came. -/
def distinctIn (n : Int) (l : List Int) : List Int := l.foldl (fun acc x => if 1 ≤ x ∧ x ≤ n ∧ x ∉ acc then acc ++ [x] else acc) []
def quorumB (n : Int) (l : List Int) : Bool := decide (1 ≤ n) && decide (majI n ≤ ((distinctIn n l).length : Int))
theorem distinct_snoc (n : Int) (l : List Int) (x : Int) : distinctIn n (l ++ [x]) = if 1 ≤ x ∧ x ≤ n ∧ x ∉ distinctIn n l then distinctIn n l ++ [x] else distinctIn n l := by
  unfold distinctIn; rw [List.foldl_append]; rfl
theorem distinct_len (n : Int) (l : List Int) : (distinctIn n l).length ≤ l.length := by
  suffices h : ∀ (m : List Int), (distinctIn n m.reverse).length ≤ m.length by simpa using h l.reverse
  intro m
  induction m with
  | nil => simp [distinctIn]
  | cons x m ih => rw [List.reverse_cons, distinct_snoc]; split <;> simp <;> omega

def Bal.ok (b : Bal) : Prop := 0 ≤ b.r ∧ b.r < 18446744073709551616 ∧ -9223372036854775808 ≤ b.n ∧ b.n ≤ 9223372036854775807 ∧ 0 ≤ b.i ∧ b.i < 18446744073709551616
theorem great_mem (l : List Bal) : l ≠ [] → great l ∈ l := by
  suffices h : ∀ (m : List Bal), m.reverse ≠ [] → great m.reverse ∈ m.reverse by simpa using h l.reverse
  intro m
  induction m with
  | nil => simp
  | cons x m ih =>
    intro _
    rw [List.reverse_cons]
    by_cases hm : m.reverse = []
    · rw [hm, great_snoc_yes [] x (.inl rfl)]; simp
    · by_cases hc : cmpB (great m.reverse) x < 0
      · rw [great_snoc_yes _ x (.inr hc)]; simp
      · rw [great_snoc_no _ x hm hc]; exact List.mem_append_left _ (ih hm)
theorem great_ok (l : List Bal) (h : ∀ b ∈ l, b.ok) : (great l).ok := by
  by_cases hl : l = []
  · subst hl; simp [great, greatO, Bal.zero, Bal.ok]
  · exact h _ (great_mem l hl)

theorem cmp_neg_iff (a b : Bal) : cmpB a b < 0 ↔ a.r < b.r ∨ (a.r = b.r ∧ (a.n < b.n ∨ (a.n = b.n ∧ a.i < b.i))) := by
  unfold cmpB orI cmpI
  repeat' split
  all_goals omega
theorem cmp_zero_iff (a b : Bal) : cmpB a b = 0 ↔ a = b := by
  have : a = b ↔ a.r = b.r ∧ a.n = b.n ∧ a.i = b.i := by
    cases a; cases b; simp
  rw [this]
  unfold cmpB orI cmpI
  repeat' split
  all_goals omega
theorem cmp_swap (a b : Bal) : cmpB b a = - cmpB a b := by
  unfold cmpB orI cmpI
  repeat' split
  all_goals omega
theorem cmp_range (a b : Bal) : cmpB a b = -1 ∨ cmpB a b = 0 ∨ cmpB a b = 1 := by
  unfold cmpB orI cmpI
  repeat' split
  all_goals omega
/-- The round of the greatest is the greatest round. -/
def maxR (l : List Bal) : Int := l.foldl (fun m b => if m < b.r then b.r else m) 0
theorem maxR_snoc (l : List Bal) (y : Bal) : maxR (l ++ [y]) = if maxR l < y.r then y.r else maxR l := by unfold maxR; rw [List.foldl_append]; rfl
theorem great_r (l : List Bal) (h : ∀ b ∈ l, b.ok) : (great l).r = maxR l := by
  suffices hh : ∀ (m : List Bal), (∀ b ∈ m.reverse, b.ok) → (great m.reverse).r = maxR m.reverse by simpa using hh l.reverse (by simpa using h)
  intro m
  induction m with
  | nil => intro _; rfl
  | cons x m ih =>
    intro hok
    rw [List.reverse_cons] at hok ⊢
    have ih' := ih (fun b hb => hok b (List.mem_append_left _ hb))
    have hx := hok x (by simp)
    rw [maxR_snoc, ← ih']
    by_cases hm : m.reverse = []
    · rw [hm, great_snoc_yes [] x (.inl rfl), great_nil]; unfold Bal.zero Bal.ok at *; simp only []; split <;> omega
    · by_cases hc : cmpB (great m.reverse) x < 0
      · rw [great_snoc_yes _ x (.inr hc)]; rw [cmp_neg_iff] at hc; split <;> omega
      · rw [great_snoc_no _ x hm hc]; rw [cmp_neg_iff] at hc; split <;> omega
theorem mem_distinct (n : Int) (l : List Int) (x : Int) : x ∈ distinctIn n l ↔ x ∈ l ∧ 1 ≤ x ∧ x ≤ n := by
  suffices hh : ∀ (m : List Int), x ∈ distinctIn n m.reverse ↔ x ∈ m.reverse ∧ 1 ≤ x ∧ x ≤ n by simpa using hh l.reverse
  intro m
  induction m with
  | nil => simp [distinctIn]
  | cons y m ih =>
    rw [List.reverse_cons, distinct_snoc]
    split
    · simp only [List.mem_append, ih, List.mem_singleton]
      constructor
      · rintro (h | rfl)
        · exact ⟨.inl h.1, h.2⟩
        · exact ⟨.inr rfl, by omega, by omega⟩
      · rintro ⟨h | rfl, h2⟩
        · exact .inl ⟨h, h2⟩
        · exact .inr rfl
    · rename_i hn
      rw [ih]
      simp only [List.mem_append, List.mem_singleton]
      constructor
      · rintro ⟨h, h2⟩; exact ⟨.inl h, h2⟩
      · rintro ⟨h | rfl, h2⟩
        · exact ⟨h, h2⟩
        · refine Classical.byContradiction fun hc => hn ⟨h2.1, h2.2, fun hd => hc (ih.1 hd)⟩

def idxI (l : List Int) (x : Int) : Int := if x ∈ l then (l.idxOf x : Int) else -1
end Go.Proofs.Ytpmkpkfkimcpjaa
