/- The arguments of chapter 14's laws, opened: places, rows of places, a fragment. -/
import Derived.Test.YtcmidhecmhbeoaaRows
import Derived.Test.YtcmidhecmhbeoaaPlain
import Derived.Lib.SmallJoins
namespace Go.Proofs.Ytcmidhecmhbeoaa
open Go.ChangeShapes Go.WideShapes Go.ChangeAt Go.RowKit Go.Deep Go.Joins

theorem Try.own : ownKnob Try.prog.godebug = none := by kernel_rfl
theorem Try.laidOut : laidOutB Try.prog = true := by kernel_rfl

def Pl.ok (x : Pl) : Prop := -9223372036854775808 ≤ x.n ∧ x.n ≤ 9223372036854775807 ∧ 0 ≤ x.s ∧ x.s ≤ 18446744073709551615

section
variable {H : Type} {enc : TypeId × Value → H} {W : World} {base : Nat} {v : Value} {d : DataW H} {p : List MemPlace}

theorem open_pl (hv : Value.okWide Try.prog W .any base 37 v) (h : DataW.Trod enc Try.prog W 0 (fun _ => true) true 37 v d p) :
    ∃ b : Pl, v = .agg #[.int .i64 b.n, .int .u64 b.s] ∧ b.ok := by
  obtain ⟨c0, c1, y0, y1, m, rfl, _, _, hy0, hy1⟩ := open_agg2 Try.underlying37 (by kernel_rfl) (by kernel_rfl) hv h
  obtain ⟨n, e1, rfl, wn⟩ := DataW.trod_int Try.underlying3 hy0
  obtain ⟨r, e0, rfl, wr⟩ := DataW.trod_int Try.underlying22 hy1
  simp at e0 e1
  subst e0 e1
  have h1 := bounds_u64 wr
  have h2 := bounds_i64 wn
  exact ⟨⟨n, r⟩, rfl, by unfold Pl.ok; simp only []; omega⟩

theorem pls_row {fuel : Nat} {cs : List Value} {x : DataW H × List MemPlace} (hf : DataW.trod enc Try.prog W 0 (fun _ => true) true fuel 23 cs = some x) :
    ∃ (l : List Pl) (A : Option Addr) (cap : Nat), cs = [.slice A l.length cap] ∧ l.length ≤ cap ∧ cap ≤ maxLen ∧ PR W W.heap.size A l ∧ ∀ b ∈ l, b.ok := by
  rcases open_slice_fields Try.underlying23 Try.underlying37 (by kernel_rfl) (by kernel_rfl) hf with ⟨hcs, _⟩ | ⟨a, len, cap, m, D, Pl', hcs, _, hl, hm, hmm, _, hi⟩
  · exact ⟨[], none, 0, hcs, Nat.le_refl _, Nat.zero_le _, Reads.none_, by simp⟩
  · obtain ⟨l, hll, hP⟩ := list_of (fun i (b : Pl) => b.ok ∧ ∀ j u, j < 2 → b.cs[j]? = some u → W.cell? (a.add (i * 2 + j)) = some u) len (fun i hil => by
      obtain ⟨ys, n, _, _, _, hf⟩ := hi i (by rw [hmm]; split <;> omega)
      obtain ⟨v0, y0, c0, _, t0⟩ := hf 0 _ rfl
      obtain ⟨v1, y1, c1, _, t1⟩ := hf 1 _ rfl
      obtain ⟨nn, e1, _, wn⟩ := DataW.trod_int Try.underlying3 t0
      obtain ⟨r, e0, _, wr⟩ := DataW.trod_int Try.underlying22 t1
      simp at e0 e1
      subst e0 e1
      have h1 := bounds_u64 wr
      have h2 := bounds_i64 wn
      refine ⟨⟨nn, r⟩, by unfold Pl.ok; simp only []; omega, fun j u hj hu => ?_⟩
      match j, hj, hu with
      | 0, _, hu => simp [Pl.cs] at hu; subst hu; exact c0
      | 1, _, hu => simp [Pl.cs] at hu; subst hu; exact c1)
    refine ⟨l, some a, cap, by rw [hll]; exact hcs, by omega, hm, Reads.mk_flat l pl_len (by decide) (fun k hk j u hj hu => (hP k hk).2 j u hj hu), fun b hb => ?_⟩
    obtain ⟨i, hi, rfl⟩ := List.mem_iff_getElem.1 hb
    exact (hP i hi).1

theorem open_pls (hv : Value.okWide Try.prog W .any base 23 v) (h : DataW.Trod enc Try.prog W 0 (fun _ => true) true 23 v d p) :
    ∃ (l : List Pl) (A : Option Addr) (cap : Nat), v = .slice A l.length cap ∧ l.length ≤ cap ∧ cap ≤ maxLen ∧ PR W W.heap.size A l ∧ ∀ b ∈ l, b.ok := by
  obtain ⟨a0, len, cap, rfl⟩ := okWide_slice Try.underlying23 hv
  obtain ⟨fuel, hf⟩ := h
  obtain ⟨l, A, c, he, h1, h2, h3, h4⟩ := pls_row hf
  simp [Value.cells] at he
  obtain ⟨rfl, rfl, rfl⟩ := he
  exact ⟨l, _, _, rfl, h1, h2, h3, h4⟩

theorem open_frag (hv : Value.okWide Try.prog W .any base 25 v) (h : DataW.Trod enc Try.prog W 0 (fun _ => true) true 25 v d p) :
    ∃ (first : Int) (l : List Pl) (A : Option Addr) (cap : Nat), v = .agg #[.int .u64 first, .slice A l.length cap] ∧ 0 ≤ first ∧ first ≤ 18446744073709551615 ∧ l.length ≤ cap ∧ cap ≤ maxLen ∧ PR W W.heap.size A l ∧ ∀ b ∈ l, b.ok := by
  obtain ⟨c0, c1, y0, y1, m, rfl, _, _, hy0, hy1⟩ := open_agg2 Try.underlying25 (by kernel_rfl) (by kernel_rfl) hv h
  obtain ⟨r, e0, rfl, wr⟩ := DataW.trod_int Try.underlying22 hy0
  obtain ⟨l, A, cap, e1, h1, h2, h3, h4⟩ := pls_row hy1
  simp at e0 e1
  subst e0 e1
  have hb := bounds_u64 wr
  exact ⟨r, l, A, cap, rfl, hb.1, hb.2, h1, h2, h3, h4⟩
end
end Go.Proofs.Ytcmidhecmhbeoaa
