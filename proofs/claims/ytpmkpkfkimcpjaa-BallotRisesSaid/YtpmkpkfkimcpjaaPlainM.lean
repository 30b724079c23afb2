/- What is true of majorities: more are one too; two have one in common. -/
import Derived.Test.YtpmkpkfkimcpjaaPlain
namespace Go.Proofs.Ytpmkpkfkimcpjaa

theorem distinct_nodup (n : Int) (l : List Int) : (distinctIn n l).Nodup := by
  suffices h : ∀ (m : List Int), (distinctIn n m.reverse).Nodup by simpa using h l.reverse
  intro m
  induction m with
  | nil => simp [distinctIn]
  | cons x m ih =>
    rw [List.reverse_cons, distinct_snoc]
    split
    · rename_i h
      rw [List.nodup_append]
      refine ⟨ih, by simp, ?_⟩
      intro a ha b hb hab
      simp at hb
      subst hb
      exact h.2.2 (hab ▸ ha)
    · exact ih

theorem nodup_le (n : Nat) : ∀ (l : List Int), l.Nodup → (∀ x ∈ l, 1 ≤ x ∧ x ≤ (n : Int)) → l.length ≤ n := by
  induction n with
  | zero =>
    intro l _ h
    cases l with
    | nil => simp
    | cons x l => have := h x (by simp); omega
  | succ n ih =>
    intro l hn h
    have h1 := ih (l.erase ((n : Int) + 1)) (hn.erase _) (fun x hx => by
      have hx1 := h x (List.mem_of_mem_erase hx)
      have hne : x ≠ (n : Int) + 1 := by
        rintro rfl
        exact (List.Nodup.mem_erase_iff hn).1 hx |>.1 rfl
      omega)
    have h2 := List.length_erase (a := (n : Int) + 1) (l := l)
    split at h2 <;> omega

theorem quorum_more (n : Int) (l : List Int) (x : Int) (h : quorumB n l = true) : quorumB n (l ++ [x]) = true := by
  unfold quorumB at *
  simp only [Bool.and_eq_true, decide_eq_true_eq] at *
  refine ⟨h.1, ?_⟩
  rw [distinct_snoc]
  split
  · simp only [List.length_append, List.length_cons, List.length_nil]; omega
  · exact h.2

theorem quorum_meets (n : Int) (a c : List Int) (ha : quorumB n a = true) (hc : quorumB n c = true) : ∃ i k, ∃ (hi : i < a.length) (hk : k < c.length), a[i] = c[k] ∧ 1 ≤ a[i] ∧ a[i] ≤ n := by
  unfold quorumB at ha hc
  simp only [Bool.and_eq_true, decide_eq_true_eq] at ha hc
  refine Classical.byContradiction fun hno => ?_
  have hdis : ∀ x ∈ distinctIn n a, x ∉ distinctIn n c := fun x hx hx2 => by
    rw [mem_distinct] at hx hx2
    obtain ⟨i, hi, rfl⟩ := List.mem_iff_getElem.1 hx.1
    obtain ⟨k, hk, e⟩ := List.mem_iff_getElem.1 hx2.1
    exact hno ⟨i, k, hi, hk, e.symm, hx.2⟩
  have hnd : (distinctIn n a ++ distinctIn n c).Nodup := by
    rw [List.nodup_append]
    refine ⟨distinct_nodup n a, distinct_nodup n c, fun x hx y hy hxy => ?_⟩
    subst hxy
    exact hdis x hx hy
  have hle := nodup_le n.toNat _ hnd (fun x hx => by
    rw [List.mem_append, mem_distinct, mem_distinct] at hx
    rcases hx with hx | hx <;> omega)
  rw [List.length_append] at hle
  have hm : majI n = n / 2 + 1 := by unfold majI; rw [if_neg (by omega)]
  omega

/-- No pair ahead of (i, k) is a match. -/
def NoneYet (n : Int) (a c : List Int) (i k : Nat) : Prop :=
  ∀ i' k', (hi : i' < a.length) → (hk : k' < c.length) → (i' < i ∨ i' = i ∧ k' < k) → ¬ (a[i'] = c[k'] ∧ 1 ≤ a[i'] ∧ a[i'] ≤ n)
theorem NoneYet.start (n : Int) (a c : List Int) : NoneYet n a c 0 0 := fun i' k' _ _ h => by omega
theorem NoneYet.step {n : Int} {a c : List Int} {i k : Nat} (h : NoneYet n a c i k) (hi : i < a.length) (hk : k < c.length) (hn : ¬ (a[i] = c[k] ∧ 1 ≤ a[i] ∧ a[i] ≤ n)) : NoneYet n a c i (k + 1) := by
  intro i' k' hi' hk' hh
  by_cases e : i' = i ∧ k' = k
  · obtain ⟨rfl, rfl⟩ := e; exact hn
  · exact h i' k' hi' hk' (by omega)
theorem NoneYet.next {n : Int} {a c : List Int} {i : Nat} {k : Nat} (h : NoneYet n a c i k) (hk : c.length ≤ k) : NoneYet n a c (i + 1) 0 := by
  intro i' k' hi' hk' hh
  exact h i' k' hi' hk' (by omega)
theorem NoneYet.absurd {n : Int} {a c : List Int} {i : Nat} {k : Nat} (h : NoneYet n a c i k) (hi : a.length ≤ i) (ha : quorumB n a = true) (hc : quorumB n c = true) : False := by
  obtain ⟨i', k', hi', hk', hm⟩ := quorum_meets n a c ha hc
  exact h i' k' hi' hk' (by omega) hm

theorem maxR_ge (l : List Bal) : ∀ b ∈ l, b.r ≤ maxR l := by
  suffices h : ∀ (m : List Bal), ∀ b ∈ m.reverse, b.r ≤ maxR m.reverse by simpa using h l.reverse
  intro m
  induction m with
  | nil => simp
  | cons x m ih =>
    intro b hb
    rw [List.reverse_cons] at hb ⊢
    rw [maxR_snoc]
    rcases List.mem_append.1 hb with h | h
    · have := ih b h; split <;> omega
    · simp at h; subst h; split <;> omega
/-- What the next ballot may be. -/
theorem next_cases (n i : Int) (l : List Bal) (hok : ∀ b ∈ l, b.ok) : nextB n i l = (Bal.zero, 1) ∧ lifeB n i = false ∨ nextB n i l = (Bal.zero, 3) ∧ 4611686018427387903 ≤ maxR l ∨
    ∃ R, nextB n i l = (⟨R, n, i⟩, 0) ∧ 1 ≤ R ∧ R ≤ 4611686018427387903 ∧ lifeB n i = true ∧ ∀ b ∈ l, b.r < R := by
  have h1 := great_r l hok
  have h2 := (great_ok l hok).1
  unfold nextB
  cases hl : lifeB n i
  · simp
  · simp only [Bool.true_eq_false, if_false]
    by_cases h3 : (great l).r ≥ 4611686018427387903
    · right; left; exact ⟨by rw [if_pos h3], by omega⟩
    · right; right
      refine ⟨_, by rw [if_neg h3], by omega, by omega, by first | rfl | trivial, fun b hb => ?_⟩
      have := maxR_ge l b hb
      omega
theorem cmp_lt_round (a b : Bal) (h : a.r < b.r) : cmpB a b = -1 := by
  unfold cmpB orI cmpI; rw [if_pos h]; rfl
end Go.Proofs.Ytpmkpkfkimcpjaa
