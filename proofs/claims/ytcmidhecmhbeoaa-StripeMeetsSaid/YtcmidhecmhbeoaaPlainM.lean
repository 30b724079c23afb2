/- Chapter 14, plain: any A of a write set have one of those who answered among them. -/
import Derived.Test.YtcmidhecmhbeoaaPlainR
namespace Go.Proofs.Ytcmidhecmhbeoaa
open Go.RowKit

theorem among_filter {R fr : List Pl} (h : R.Nodup) : among R fr = (R.filter (· ∈ fr)).length := by unfold among; rw [nub_of_nodup h]
theorem filter_split (R fr : List Pl) : (R.filter (· ∈ fr)).length + (R.filter (fun x => !decide (x ∈ fr))).length = R.length := by
  induction R with
  | nil => rfl
  | cons x R ih =>
    by_cases hx : x ∈ fr <;> simp [hx] <;> omega
theorem meets {R T fr : List Pl} (h : R.Nodup) (hT : T.Sublist R) (hno : ∀ x ∈ T, x ∉ fr) : T.length + among R fr ≤ R.length := by
  have h1 : T.filter (fun x => !decide (x ∈ fr)) = T := List.filter_eq_self.2 fun x hx => by simpa using hno x hx
  have h2 : (T.filter (fun x => !decide (x ∈ fr))).length ≤ (R.filter (fun x => !decide (x ∈ fr))).length := (hT.filter _).length_le
  rw [h1] at h2
  have h3 := filter_split R fr
  rw [among_filter h]
  omega
theorem meets_cover {l fr T : List Pl} {m k : Nat} {a : Int} (hnd : l.Nodup) (hm : m ≤ l.length) (hl : 0 < l.length) (ha : a ≤ m) (hc : coverB l m a fr = true) (hT : T.Sublist (round l (k % l.length) m)) (hno : ∀ x ∈ T, x ∉ fr) : (T.length : Int) < a := by
  have h1 := meets (round_nodup hnd hm) hT hno
  rw [round_len] at h1
  unfold coverB at hc
  simp only [decide_eq_true_eq] at hc
  have h2 := hc.2.2 (k % l.length) (Nat.mod_lt _ hl)
  rw [Int.toNat_natCast] at h2
  unfold missB at h2
  simp only [decide_eq_true_eq] at h2
  omega
theorem some_short {l fr : List Pl} {m : Nat} {a : Int} (h1 : 1 ≤ m) (hm : m ≤ l.length) (hc : coverB l m a fr = false) : ∃ k, k < l.length ∧ missB (round l k m) m a fr = false := by
  refine Classical.byContradiction fun h => ?_
  unfold coverB at hc
  simp only [decide_eq_false_iff_not] at hc
  refine hc ⟨by omega, by omega, fun k hk => ?_⟩
  rw [Int.toNat_natCast]
  cases hb : missB (round l k m) m a fr with
  | true => rfl
  | false => exact absurd ⟨k, hk, hb⟩ h
theorem miss_num {l fr : List Pl} {m k : Nat} {a : Int} (ha : a ≤ m) : missB (round l k m) m a fr = true ↔ (m : Int) - among (round l k m) fr < a := by
  unfold missB
  simp only [decide_eq_true_eq]
  omega
theorem pr_one {w : World} {B b o n k : Nat} {R : List Pl} {x : Pl} (h : Reads w B 2 (some ⟨b, o, none⟩) n (R.flatMap Pl.cs)) (hn : R.length = n) (hx : R[k]? = some x) : PR w B (some ⟨b, o + k * 2, none⟩) [x] := by
  obtain ⟨hk, rfl⟩ := List.getElem?_eq_some_iff.1 hx
  subst hn
  obtain ⟨b', o', he, hb, hc⟩ := Reads.elem pl_len h hk (by omega)
  simp only [Option.some.injEq, Addr.mk.injEq, and_true] at he
  obtain ⟨rfl, rfl⟩ := he
  refine ⟨by simp [Pl.cs], fun _ => ⟨_, rfl, hb, fun j u hu => ?_⟩⟩
  rw [Addr.add_lit]
  have hj : j < 2 := by have := (List.getElem?_eq_some_iff.1 hu).1; simpa [Pl.cs] using this
  exact hc j u hj (by simpa using hu)
theorem among_one (x : Pl) (fr : List Pl) : among [x] fr = if x ∈ fr then 1 else 0 := by
  have := among_snoc [] fr x
  simpa [among_nil] using this
def metB (T fr : List Pl) : Bool := T.any fun x => decide (x ∈ fr)
theorem metB_snoc (T fr : List Pl) (x : Pl) : metB (T ++ [x]) fr = (metB T fr || decide (x ∈ fr)) := by simp [metB]
theorem metB_no {T fr : List Pl} (h : metB T fr = false) : ∀ x ∈ T, x ∉ fr := by
  unfold metB at h
  rw [List.any_eq_false] at h
  intro x hx
  simpa using h x hx
end Go.Proofs.Ytcmidhecmhbeoaa
