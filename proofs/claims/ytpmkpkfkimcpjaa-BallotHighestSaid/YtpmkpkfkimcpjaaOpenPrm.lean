/- A row of promises that came in, opened. -/
import Derived.Test.YtpmkpkfkimcpjaaOpen
import Derived.Test.YtpmkpkfkimcpjaaWalkF
import Derived.Lib.SmallJoins
namespace Go.Proofs.Ytpmkpkfkimcpjaa
open Go.ChangeShapes Go.WideShapes Go.ChangeAt Go.RowKit Go.Deep Go.Joins

section
variable {H : Type} {enc : TypeId × Value → H} {W : World} {base : Nat} {v : Value} {d : DataW H} {p : List MemPlace}

theorem ints_row {P : Program} {t e : TypeId} {k : IntKind} {fuel : Nat} {cs : List Value} {x : DataW H × List MemPlace}
    (ht : P.underlying t = some (.slice e)) (he : P.underlying e = some (.int k)) (hC : P.cellsOf e = 1) (hf : DataW.trod enc P W 0 (fun _ => true) true fuel t cs = some x) :
    ∃ (l : List Int) (A : Option Addr) (cap : Nat), cs = [.slice A l.length cap] ∧ l.length ≤ cap ∧ cap ≤ maxLen ∧ Reads W W.heap.size 1 A l.length (l.map (.int k)) ∧ ∀ n ∈ l, (Lit.int k n).wf = true := by
  rcases open_ints ht he hC hf with ⟨hcs, _⟩ | ⟨a, l, c, zs, hcs, _, hl, hm, hz, _, hcell, hwz⟩
  · exact ⟨[], none, 0, hcs, Nat.le_refl _, Nat.zero_le _, Reads.none_, by simp⟩
  · have hzl : zs.length = c := by simpa using hz
    have hlen : (zs.take l).length = l := by simp; omega
    refine ⟨zs.take l, some a, c, by rw [hlen]; exact hcs, by omega, hm, ?_, fun n hn => hwz n (List.mem_of_mem_take hn)⟩
    refine Reads.mk_map (zs.take l) fun k hk => ?_
    rw [hcell k (by omega), List.getElem_take]
    congr 2
    rw [List.getD_eq_getElem?_getD, List.getElem?_eq_getElem (by omega)]; rfl

theorem bal_row {fuel : Nat} {c0 c1 c2 : Value} {x : DataW H × List MemPlace} (h : DataW.trod enc Try.prog W 0 (fun _ => true) true fuel 27 [c0, c1, c2] = some x) :
    ∃ b : Bal, c0 = .int .u64 b.r ∧ c1 = .int .i64 b.n ∧ c2 = .int .u64 b.i := by
  obtain ⟨y0, y1, y2, n, _, _, t0, t1, t2⟩ := trod_struct3 Try.underlying27 h
  obtain ⟨r, e0, _, _⟩ := DataW.trod_int Try.underlying22 t0
  obtain ⟨nn, e1, _, _⟩ := DataW.trod_int Try.underlying3 t1
  obtain ⟨i, e2, _, _⟩ := DataW.trod_int Try.underlying22 t2
  have q22 : Try.prog.cellsOf 22 = 1 := by kernel_rfl
  have q3 : Try.prog.cellsOf 3 = 1 := by kernel_rfl
  simp [q22, q3] at e0 e1 e2
  exact ⟨⟨r, nn, i⟩, e0, e1, e2⟩

theorem list8 {cs : List Value} (h : cs.length = 8) : ∃ c0 c1 c2 c3 c4 c5 c6 c7, cs = [c0, c1, c2, c3, c4, c5, c6, c7] := by
  match cs, h with
  | [c0, c1, c2, c3, c4, c5, c6, c7], _ => exact ⟨c0, c1, c2, c3, c4, c5, c6, c7, rfl⟩

theorem prm_row {fuel : Nat} {cs : List Value} {x : DataW H × List MemPlace} (h : DataW.trod enc Try.prog W 0 (fun _ => true) true fuel 51 cs = some x) :
    ∃ y : Prm, cs = y.cs ∧ PR W W.heap.size y ∧ y.n ≤ maxLen := by
  obtain ⟨y0, y1, y2, y3, n, _, hl, t0, t1, t2, t3⟩ := trod_struct4 Try.underlying51 h
  have q51 : Try.prog.cellsOf 51 = 8 := by kernel_rfl
  have q27 : Try.prog.cellsOf 27 = 3 := by kernel_rfl
  have q3 : Try.prog.cellsOf 3 = 1 := by kernel_rfl
  have q49 : Try.prog.cellsOf 49 = 1 := by kernel_rfl
  rw [q51] at hl
  obtain ⟨c0, c1, c2, c3, c4, c5, c6, c7, rfl⟩ := list8 hl
  simp [q27, q3, q49] at t0 t1 t2 t3
  obtain ⟨f, e0, _, _⟩ := DataW.trod_int Try.underlying3 t0
  obtain ⟨b1, rfl, rfl, rfl⟩ := bal_row t1
  obtain ⟨b2, rfl, rfl, rfl⟩ := bal_row t2
  obtain ⟨bs, A, cap, e3, h1, h2, h3, _⟩ := ints_row Try.underlying49 Try.underlying5 (by kernel_rfl) t3
  simp at e0 e3
  subst e0 e3
  exact ⟨⟨f, b1, b2, A, bs.length, cap, bs⟩, rfl, ⟨rfl, h3⟩, Nat.le_trans h1 h2⟩

theorem open_prms (hv : Value.okWide Try.prog W .any base 48 v) (h : DataW.Trod enc Try.prog W 0 (fun _ => true) true 48 v d p) :
    ∃ (l : List Prm) (A : Option Addr) (cap : Nat), v = .slice A l.length cap ∧ l.length ≤ cap ∧ cap ≤ maxLen ∧ Reads W W.heap.size 8 A l.length (l.flatMap Prm.cs) ∧ ∀ x ∈ l, PR W W.heap.size x ∧ x.n ≤ maxLen := by
  obtain ⟨a0, len, cap, rfl⟩ := okWide_slice Try.underlying48 hv
  obtain ⟨fuel, hf⟩ := h
  have q51 : Try.prog.cellsOf 51 = 8 := by kernel_rfl
  rcases open_slice Try.underlying48 hf with ⟨hcs, _⟩ | ⟨a, len', cap', m, n, D, Pl, hcs, _, hl, hm, hmm, _, hi⟩
  · simp [Value.cells] at hcs
    obtain ⟨rfl, rfl, rfl⟩ := hcs
    exact ⟨[], none, 0, rfl, Nat.le_refl _, Nat.zero_le _, Reads.none_, by simp⟩
  · simp [Value.cells] at hcs
    obtain ⟨rfl, rfl, rfl⟩ := hcs
    rw [q51] at hi
    obtain ⟨l, hll, hP⟩ := list_of (fun i (b : Prm) => (PR W W.heap.size b ∧ b.n ≤ maxLen) ∧ ∀ j u, j < 8 → b.cs[j]? = some u → W.cell? (a.add (i * 8 + j)) = some u) len (fun i hil => by
      obtain ⟨cs', hc, ht⟩ := hi i (by rw [hmm]; simp; omega)
      obtain ⟨y, rfl, hp⟩ := prm_row ht
      obtain ⟨_, _, hat⟩ := World.cells?_some hc
      refine ⟨y, hp, fun j u hj hu => ?_⟩
      rw [← Go.Deep.add_add, hat j hj, hu])
    refine ⟨l, some a, cap, by rw [hll], by omega, hm, Reads.mk_flat l prm_len (by decide) (fun k hk j u hj hu => (hP k hk).2 j u hj hu), fun b hb => ?_⟩
    obtain ⟨i, hi, rfl⟩ := List.mem_iff_getElem.1 hb
    exact (hP i hi).1
end
end Go.Proofs.Ytpmkpkfkimcpjaa
