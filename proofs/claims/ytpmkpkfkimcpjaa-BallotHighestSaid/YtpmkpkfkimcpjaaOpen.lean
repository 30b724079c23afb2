/- The arguments of chapter 06's laws, opened: ballots, rows of ballots. -/
import Derived.Test.YtpmkpkfkimcpjaaRows
import Derived.Test.YtpmkpkfkimcpjaaWalkA
import Derived.Test.YtpmkpkfkimcpjaaMore
namespace Go.Proofs.Ytpmkpkfkimcpjaa
open Go.ChangeShapes Go.WideShapes Go.ChangeAt Go.RowKit Go.Deep Go.Joins

theorem Try.own : ownKnob Try.prog.godebug = none := by kernel_rfl
theorem Try.laidOut : laidOutB Try.prog = true := by kernel_rfl

section
variable {H : Type} {enc : TypeId × Value → H} {W : World} {base : Nat} {v : Value} {d : DataW H} {p : List MemPlace}

theorem open_bal (hv : Value.okWide Try.prog W .any base 27 v) (h : DataW.Trod enc Try.prog W 0 (fun _ => true) true 27 v d p) :
    ∃ b : Bal, v = .agg #[.int .u64 b.r, .int .i64 b.n, .int .u64 b.i] ∧ b.ok := by
  obtain ⟨c0, c1, c2, y0, y1, y2, m, rfl, _, _, hy0, hy1, hy2⟩ := open_agg3 Try.underlying27 (by kernel_rfl) (by kernel_rfl) hv h
  obtain ⟨r, e0, rfl, wr⟩ := DataW.trod_int Try.underlying22 hy0
  obtain ⟨n, e1, rfl, wn⟩ := DataW.trod_int Try.underlying3 hy1
  obtain ⟨i, e2, rfl, wi⟩ := DataW.trod_int Try.underlying22 hy2
  simp at e0 e1 e2
  subst e0 e1 e2
  have h1 := bounds_u64 wr
  have h2 := bounds_i64 wn
  have h3 := bounds_u64 wi
  exact ⟨⟨r, n, i⟩, rfl, by unfold Bal.ok; simp only []; omega⟩

theorem open_bals (hv : Value.okWide Try.prog W .any base 23 v) (h : DataW.Trod enc Try.prog W 0 (fun _ => true) true 23 v d p) :
    ∃ (l : List Bal) (A : Option Addr) (cap : Nat), v = .slice A l.length cap ∧ l.length ≤ cap ∧ cap ≤ maxLen ∧ Reads W W.heap.size 3 A l.length (l.flatMap Bal.cs) ∧ ∀ b ∈ l, b.ok := by
  obtain ⟨a0, len, cap, rfl⟩ := okWide_slice Try.underlying23 hv
  obtain ⟨fuel, hf⟩ := h
  rcases open_slice_fields Try.underlying23 Try.underlying27 (by kernel_rfl) (by kernel_rfl) hf with ⟨hcs, _⟩ | ⟨a, len', cap', m, D, Pl, hcs, _, hl, hm, hmm, _, hi⟩
  · simp [Value.cells] at hcs
    obtain ⟨rfl, rfl, rfl⟩ := hcs
    exact ⟨[], none, 0, rfl, Nat.le_refl _, Nat.zero_le _, Reads.none_, by simp⟩
  · simp [Value.cells] at hcs
    obtain ⟨rfl, rfl, rfl⟩ := hcs
    obtain ⟨l, hll, hP⟩ := list_of (fun i (b : Bal) => b.ok ∧ ∀ j u, j < 3 → b.cs[j]? = some u → W.cell? (a.add (i * 3 + j)) = some u) len (fun i hil => by
      obtain ⟨ys, n, _, _, _, hf⟩ := hi i (by rw [hmm]; split <;> omega)
      obtain ⟨v0, y0, c0, _, t0⟩ := hf 0 _ rfl
      obtain ⟨v1, y1, c1, _, t1⟩ := hf 1 _ rfl
      obtain ⟨v2, y2, c2, _, t2⟩ := hf 2 _ rfl
      obtain ⟨r, e0, _, wr⟩ := DataW.trod_int Try.underlying22 t0
      obtain ⟨nn, e1, _, wn⟩ := DataW.trod_int Try.underlying3 t1
      obtain ⟨ii, e2, _, wi⟩ := DataW.trod_int Try.underlying22 t2
      simp at e0 e1 e2
      subst e0 e1 e2
      have h1 := bounds_u64 wr
      have h2 := bounds_i64 wn
      have h3 := bounds_u64 wi
      refine ⟨⟨r, nn, ii⟩, by unfold Bal.ok; simp only []; omega, fun j u hj hu => ?_⟩
      match j, hj, hu with
      | 0, _, hu => simp [Bal.cs] at hu; subst hu; exact c0
      | 1, _, hu => simp [Bal.cs] at hu; subst hu; exact c1
      | 2, _, hu => simp [Bal.cs] at hu; subst hu; exact c2)
    refine ⟨l, some a, cap, by rw [hll], by omega, hm, Reads.mk_flat l balcs_len (by decide) (fun k hk j u hj hu => (hP k hk).2 j u hj hu), fun b hb => ?_⟩
    obtain ⟨i, hi, rfl⟩ := List.mem_iff_getElem.1 hb
    exact (hP i hi).1
end
end Go.Proofs.Ytpmkpkfkimcpjaa
