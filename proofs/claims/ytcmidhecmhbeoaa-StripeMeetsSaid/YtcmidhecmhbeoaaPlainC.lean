/- Chapter 14, plain: how often each place stands in the sets that follow one another. -/
import Derived.Test.YtcmidhecmhbeoaaPlainR
namespace Go.Proofs.Ytcmidhecmhbeoaa
open Go.RowKit

def occ (L : List Pl) (j : Int) : Nat := L.countP fun x => decide (x.n = j)
def cntA (L : List Pl) : Array Value := ((List.range 16).map fun j => Value.int .i64 (occ L (j : Nat) : Nat)).toArray
theorem cntA_nil : cntA [] = #[.int .i64 0, .int .i64 0, .int .i64 0, .int .i64 0, .int .i64 0, .int .i64 0, .int .i64 0, .int .i64 0, .int .i64 0, .int .i64 0, .int .i64 0, .int .i64 0, .int .i64 0, .int .i64 0, .int .i64 0, .int .i64 0] := rfl
theorem cntA_get (L : List Pl) (j : Nat) (hj : j < 16) : (cntA L)[j]? = some (.int .i64 (occ L j : Nat)) := by
  simp [cntA, hj]
theorem occ_snoc (L : List Pl) (x : Pl) (j : Int) : occ (L ++ [x]) j = occ L j + if x.n = j then 1 else 0 := by
  unfold occ
  rw [List.countP_append]
  by_cases h : x.n = j <;> simp [h]
theorem cntA_snoc (L : List Pl) (x : Pl) (m : Nat) (hx : x.n = m) : cntA (L ++ [x]) = (cntA L).setIfInBounds m (.int .i64 ((occ L m : Nat) + 1 : Int)) := by
  apply Array.ext'
  rw [Array.toList_setIfInBounds]
  apply List.ext_getElem?
  intro j
  simp only [cntA, List.getElem?_set, List.getElem?_map, List.length_map, List.length_range]
  by_cases hj : j < 16
  · rw [List.getElem?_range hj]
    simp only [Option.map_some, occ_snoc, hx]
    by_cases hm : m = j
    · subst hm; simp [hj]
    · have : ¬ ((m : Int) = j) := by omega
      simp [hm, this]
  · rw [List.getElem?_eq_none (by simpa using hj)]
    by_cases hm : m = j
    · subst hm; simp [hj]
    · simp [hm]
theorem occ_le (L : List Pl) (j : Int) : occ L j ≤ L.length := List.countP_le_length

/-- The write sets behind one another, joined. -/
def rounds (l : List Pl) (q w i : Nat) : List Pl := (List.range i).flatMap fun t => round l ((q + t) % l.length) w
theorem rounds_zero (l : List Pl) (q w : Nat) : rounds l q w 0 = [] := rfl
theorem rounds_succ (l : List Pl) (q w i : Nat) : rounds l q w (i + 1) = rounds l q w i ++ round l ((q + i) % l.length) w := by
  simp [rounds, List.range_succ, List.flatMap_append]
theorem rounds_len (l : List Pl) (q w i : Nat) : (rounds l q w i).length = i * w := by
  induction i with
  | zero => simp [rounds_zero]
  | succ i ih => rw [rounds_succ, List.length_append, ih, round_len, Nat.succ_mul]

def idxs (n r w : Nat) : List Nat := (List.range n).flatMap fun t => (List.range w).map fun i => ((r + t) % n + i) % n
theorem idxs_bool : ((List.range 6).all fun n => (List.range 6).all fun w => (List.range 6).all fun r => (List.range 6).all fun m => !(decide (m < n) && decide (w ≤ n) && decide (r < n)) || (idxs n r w).count m == w) = true := by decide +kernel
theorem idxs_all (n : Nat) (hn : n < 6) (w : Nat) (hw : w < 6) (r : Nat) (hr : r < 6) (m : Nat) (hm : m < 6) (h1 : m < n) (h2 : w ≤ n) (h3 : r < n) : (idxs n r w).count m = w := by
  have h := List.all_eq_true.1 (List.all_eq_true.1 (List.all_eq_true.1 (List.all_eq_true.1 idxs_bool n (List.mem_range.2 hn)) w (List.mem_range.2 hw)) r (List.mem_range.2 hr)) m (List.mem_range.2 hm)
  simpa [h1, h2, h3] using h

theorem node_iff {l : List Pl} (h : (l.map (·.n)).Nodup) {i m : Nat} (hi : i < l.length) (hm : m < l.length) : l[i].n = l[m].n ↔ i = m := by
  constructor
  · intro he
    have hn := List.pairwise_iff_getElem.1 h
    rcases Nat.lt_trichotomy i m with hh | hh | hh
    · exact absurd (by rw [List.getElem_map, List.getElem_map]; exact he) (hn i m (by simpa using hi) (by simpa using hm) hh)
    · exact hh
    · exact absurd (by rw [List.getElem_map, List.getElem_map]; exact he.symm) (hn m i (by simpa using hm) (by simpa using hi) hh)
  · rintro rfl; rfl
theorem countP_map_idx {l : List Pl} (h : (l.map (·.n)).Nodup) {m : Nat} (hm : m < l.length) : ∀ (I : List Nat), (∀ i ∈ I, i < l.length) →
    (I.map fun i => (l[i]?).getD Pl.zero).countP (fun x => decide (x.n = l[m].n)) = I.count m
  | [], _ => rfl
  | i :: I, hI => by
    have hi := hI i (by simp)
    have ih := countP_map_idx h hm I (fun j hj => hI j (by simp [hj]))
    rw [List.map_cons, List.countP_cons, ih, List.count_cons]
    congr 1
    rw [List.getElem?_eq_getElem hi, Option.getD_some]
    by_cases he : i = m
    · subst he; simp
    · have : ¬ l[i].n = l[m].n := fun e => he ((node_iff h hi hm).1 e)
      simp [he, this]
theorem rounds_idxs (l : List Pl) (q w i : Nat) : rounds l q w i = ((List.range i).flatMap fun t => (List.range w).map fun k => ((q + t) % l.length + k) % l.length).map fun i => (l[i]?).getD Pl.zero := by
  unfold rounds round
  rw [List.map_flatMap]
  simp [List.map_map, Function.comp_def]
theorem mod_shift (q t n : Nat) : (q + t) % n = (q % n + t) % n := by simp [Nat.add_mod]
theorem occ_rounds {l : List Pl} (h : (l.map (·.n)).Nodup) (hl : l.length ≤ 5) {q w : Nat} (hw : w ≤ l.length) {m : Nat} (hm : m < l.length) : occ (rounds l q w l.length) l[m].n = w := by
  unfold occ
  rw [rounds_idxs, countP_map_idx h hm _ (fun i hi => by
    obtain ⟨t, _, ht⟩ := List.mem_flatMap.1 hi
    obtain ⟨k, _, rfl⟩ := List.mem_map.1 ht
    exact Nat.mod_lt _ (by omega))]
  have := idxs_all l.length (by omega) w (by omega) (q % l.length) (by have := Nat.mod_lt q (show 0 < l.length by omega); omega) m (by omega) hm hw (Nat.mod_lt _ (by omega))
  unfold idxs at this
  simpa only [← mod_shift] using this
end Go.Proofs.Ytcmidhecmhbeoaa
