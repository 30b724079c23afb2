/- Chapter 14, plain: write sets of a fragment that may be; more answers. -/
import Derived.Test.YtcmidhecmhbeoaaWalkO
namespace Go.Proofs.Ytcmidhecmhbeoaa
open Go.RowKit

theorem filter_len_mono {l : List Pl} {p q : Pl → Bool} (h : ∀ x ∈ l, p x = true → q x = true) : (l.filter p).length ≤ (l.filter q).length := by
  induction l with
  | nil => simp
  | cons x l ih =>
    have ih := ih (fun y hy => h y (List.mem_cons_of_mem _ hy))
    by_cases hp : p x = true
    · rw [List.filter_cons_of_pos hp, List.filter_cons_of_pos (h x (by simp) hp)]
      simpa using ih
    · rw [List.filter_cons_of_neg hp]
      by_cases hq : q x = true
      · rw [List.filter_cons_of_pos hq]; simp; omega
      · rw [List.filter_cons_of_neg hq]; exact ih
theorem among_mono {s fr fr' : List Pl} (h : ∀ x ∈ fr, x ∈ fr') : among s fr ≤ among s fr' := by
  unfold among
  exact filter_len_mono fun x _ hx => by simp only [decide_eq_true_eq] at hx ⊢; exact h x hx
theorem acked_mono {s fr fr' : List Pl} {a : Int} (h : ∀ x ∈ fr, x ∈ fr') (hb : ackedB s a fr = true) : ackedB s a fr' = true := by
  have := among_mono (s := s) h
  unfold ackedB at *
  simp only [decide_eq_true_eq] at *
  omega
theorem miss_mono {s fr fr' : List Pl} {W a : Int} (h : ∀ x ∈ fr, x ∈ fr') (hb : missB s W a fr = true) : missB s W a fr' = true := by
  have := among_mono (s := s) h
  unfold missB at *
  simp only [decide_eq_true_eq] at *
  omega
theorem cover_mono {l fr fr' : List Pl} {W a : Int} (h : ∀ x ∈ fr, x ∈ fr') (hb : coverB l W a fr = true) : coverB l W a fr' = true := by
  unfold coverB at *
  simp only [decide_eq_true_eq] at *
  exact ⟨hb.1, hb.2.1, fun k hk => miss_mono h (hb.2.2 k hk)⟩

theorem nub_of_nodup {l : List Pl} (h : l.Nodup) : nub l = l := by
  have key : ∀ (l a : List Pl), (a ++ l).Nodup → l.foldl stepN a = a ++ l := by
    intro l
    induction l with
    | nil => intro a _; simp
    | cons x l ih =>
      intro a ha
      rw [List.foldl_cons]
      have hx : x ∉ a := by
        rw [List.nodup_append] at ha
        intro hx
        exact ha.2.2 x hx x (by simp) rfl
      rw [show stepN a x = a ++ [x] by unfold stepN; rw [if_neg hx], ih (a ++ [x]) (by simpa using ha)]
      simp
  simpa [nub] using key l [] (by simpa using h)
theorem among_nodup {s fr : List Pl} (h : s.Nodup) (hs : ∀ x ∈ s, x ∈ fr) : among s fr = s.length := by
  unfold among
  rw [nub_of_nodup h, List.filter_eq_self.2 (fun x hx => by simpa using hs x hx)]

theorem round_get {l : List Pl} {k w i : Nat} (hi : i < w) (hl : 0 < l.length) : (round l k w)[i]? = l[(k + i) % l.length]? := by
  have hm : (k + i) % l.length < l.length := Nat.mod_lt _ hl
  unfold round
  rw [List.getElem?_map, List.getElem?_range hi, Option.map_some, List.getElem?_eq_getElem hm]
  rfl
theorem mod_inj {k i j n : Nat} (hi : i < n) (hj : j < n) (h : (k + i) % n = (k + j) % n) : i = j := by
  have h1 : (k + i) % n = (k % n + i) % n := by simp [Nat.add_mod]
  have h2 : (k + j) % n = (k % n + j) % n := by simp [Nat.add_mod]
  have hk : k % n < n := Nat.mod_lt _ (by omega)
  rw [h1, h2] at h
  generalize k % n = r at *
  by_cases a : r + i < n
  · by_cases b : r + j < n
    · rw [Nat.mod_eq_of_lt a, Nat.mod_eq_of_lt b] at h; omega
    · rw [Nat.mod_eq_of_lt a, Nat.mod_eq_sub_mod (by omega), Nat.mod_eq_of_lt (by omega)] at h; omega
  · by_cases b : r + j < n
    · rw [Nat.mod_eq_sub_mod (by omega), Nat.mod_eq_of_lt (by omega : r + i - n < n), Nat.mod_eq_of_lt b] at h; omega
    · rw [Nat.mod_eq_sub_mod (by omega), Nat.mod_eq_of_lt (by omega : r + i - n < n), Nat.mod_eq_sub_mod (by omega : r + j ≥ n), Nat.mod_eq_of_lt (by omega : r + j - n < n)] at h; omega
theorem nodup_of_get {l : List Pl} (h : ∀ (i j : Nat) (x : Pl), l[i]? = some x → l[j]? = some x → i = j) : l.Nodup := by
  refine List.pairwise_iff_getElem.2 fun i j hi hj hij he => ?_
  have := h i j l[i] (List.getElem?_eq_getElem hi) (by rw [List.getElem?_eq_getElem hj, he])
  omega
theorem get_inj {l : List Pl} (h : l.Nodup) {i j : Nat} {x : Pl} (hi : l[i]? = some x) (hj : l[j]? = some x) : i = j := by
  have hn := List.pairwise_iff_getElem.1 h
  obtain ⟨a, e⟩ := List.getElem?_eq_some_iff.1 hi
  obtain ⟨b, f⟩ := List.getElem?_eq_some_iff.1 hj
  rcases Nat.lt_trichotomy i j with hh | hh | hh
  · exact absurd (e.trans f.symm) (hn i j a b hh)
  · exact hh
  · exact absurd (f.trans e.symm) (hn j i b a hh)
theorem round_nodup {l : List Pl} {k w : Nat} (h : l.Nodup) (hw : w ≤ l.length) : (round l k w).Nodup := by
  refine nodup_of_get fun i j x hi hj => ?_
  have hi' : i < w := by have := (List.getElem?_eq_some_iff.1 hi).1; rwa [round_len] at this
  have hj' : j < w := by have := (List.getElem?_eq_some_iff.1 hj).1; rwa [round_len] at this
  rw [round_get hi' (by omega)] at hi
  rw [round_get hj' (by omega)] at hj
  exact mod_inj (by omega) (by omega) (get_inj h hi hj)
theorem round_sub {l : List Pl} {k w : Nat} (hl : 0 < l.length) : ∀ x ∈ round l k w, x ∈ l := by
  intro x hx
  obtain ⟨i, hi, rfl⟩ := List.mem_iff_getElem.1 hx
  have hi' : i < w := by rwa [round_len] at hi
  have := round_get (l := l) (k := k) hi' hl
  rw [List.getElem?_eq_getElem hi] at this
  exact List.mem_of_getElem? this.symm
theorem nodup_of_nodes {l : List Pl} (h : (l.map (·.n)).Nodup) : l.Nodup := by
  have h2 : l.Pairwise (fun a b => a.n ≠ b.n) := List.pairwise_map.1 h
  exact h2.imp fun hab e => hab (by rw [e])
theorem among_round {l : List Pl} {k w : Nat} (h : l.Nodup) (hw : w ≤ l.length) (hl : 0 < l.length) : among (round l k w) l = w := by
  rw [among_nodup (round_nodup h hw) (round_sub hl), round_len]
theorem cover_self {l : List Pl} {W a : Int} (h : mayL W l = true) (hW : 1 ≤ W) (ha : 1 ≤ a) : coverB l W a l = true := by
  unfold mayL at h
  simp only [decide_eq_true_eq] at h
  obtain ⟨h1, h2, h3, h4⟩ := h
  refine decide_eq_true ⟨hW, h1, fun k hk => ?_⟩
  unfold missB
  rw [among_round (nodup_of_nodes h4) (by omega) (by omega)]
  exact decide_eq_true (by omega)
end Go.Proofs.Ytcmidhecmhbeoaa
