/- The arguments of chapter 05's laws, opened: an act, acts, rows of bytes. -/
import Derived.Test.YtfmflbcmigiciaaRows
import Derived.Test.YtfmflbcmigiciaaLawNobody
import Derived.Lib.SmallJoins
namespace Go.Proofs.Ytfmflbcmigiciaa
open Go.ChangeShapes Go.WideShapes Go.ChangeAt Go.RowKit Go.Deep Go.Joins

theorem Try.own : ownKnob Try.prog.godebug = none := by kernel_rfl
theorem Try.laidOut : laidOutB Try.prog = true := by kernel_rfl

section
variable {H : Type} {enc : TypeId × Value → H} {W : World} {base : Nat} {v : Value} {d : DataW H} {p : List MemPlace}

theorem ints_row {P : Program} {t e : TypeId} {k : IntKind} {fuel : Nat} {cs : List Value} {x : DataW H × List MemPlace}
    (ht : P.underlying t = some (.slice e)) (he : P.underlying e = some (.int k)) (hC : P.cellsOf e = 1) (hf : DataW.trod enc P W 0 (fun _ => true) true fuel t cs = some x) :
    ∃ (l : List Int) (A : Option Addr) (cap : Nat), cs = [.slice A l.length cap] ∧ l.length ≤ cap ∧ cap ≤ maxLen ∧ Reads W W.heap.size 1 A l.length (l.map (.int k)) := by
  rcases open_ints ht he hC hf with ⟨hcs, _⟩ | ⟨a, l, c, zs, hcs, _, hl, hm, hz, _, hcell, hwz⟩
  · exact ⟨[], none, 0, hcs, Nat.le_refl _, Nat.zero_le _, Reads.none_⟩
  · have hzl : zs.length = c := by simpa using hz
    have hlen : (zs.take l).length = l := by simp; omega
    refine ⟨zs.take l, some a, c, by rw [hlen]; exact hcs, by omega, hm, ?_⟩
    refine Reads.mk_map (zs.take l) fun k hk => ?_
    rw [hcell k (by omega), List.getElem_take]
    congr 2
    rw [List.getD_eq_getElem?_getD, List.getElem?_eq_getElem (by omega)]; rfl

/-- An act that came in, with its bytes. -/
structure ActM where
  d : Int
  a : Int
  b : Int
  i : Int
  A : Option Addr
  c : Nat
  bs : List Int
def ActM.cs (x : ActM) : List Value := [.int .i64 x.d, .int .i64 x.a, .int .i64 x.b, .int .i64 x.i, .slice x.A x.bs.length x.c]
theorem actm_len (x : ActM) : x.cs.length = 5 := rfl
structure ActM.Ok (W : World) (x : ActM) : Prop where
  i1 : -9223372036854775808 ≤ x.i
  i2 : x.i ≤ 9223372036854775807
  le : x.bs.length ≤ x.c
  cap : x.c ≤ maxLen
  rd : BR W W.heap.size x.A x.bs

theorem open_act (hv : Value.okWide Try.prog W .any base 41 v) (h : DataW.Trod enc Try.prog W 0 (fun _ => true) true 41 v d p) :
    ∃ x : ActM, v = .agg #[.int .i64 x.d, .int .i64 x.a, .int .i64 x.b, .int .i64 x.i, .slice x.A x.bs.length x.c] ∧ x.Ok W := by
  obtain ⟨c0, c1, c2, c3, c4, y0, y1, y2, y3, y4, m, rfl, _, _, hy0, hy1, hy2, hy3, hy4⟩ := open_agg5 Try.underlying41 (by kernel_rfl) (by kernel_rfl) hv h
  obtain ⟨n0, e0, _, _⟩ := DataW.trod_int Try.underlying3 hy0
  obtain ⟨n1, e1, _, _⟩ := DataW.trod_int Try.underlying3 hy1
  obtain ⟨n2, e2, _, _⟩ := DataW.trod_int Try.underlying3 hy2
  obtain ⟨n3, e3, _, w3⟩ := DataW.trod_int Try.underlying3 hy3
  obtain ⟨l, A, cap, e4, h1, h2, h3⟩ := ints_row Try.underlying24 Try.underlying5 (by kernel_rfl) hy4
  have b3 := bounds_i64 w3
  simp at e0 e1 e2 e3 e4
  subst e0 e1 e2 e3 e4
  exact ⟨⟨n0, n1, n2, n3, A, cap, l⟩, rfl, b3.1, b3.2, h1, h2, h3⟩

abbrev AR (w : World) (B : Nat) (A : Option Addr) (l : List ActM) : Prop := Reads w B 5 A l.length (l.flatMap ActM.cs)
theorem open_acts (hv : Value.okWide Try.prog W .any base 37 v) (h : DataW.Trod enc Try.prog W 0 (fun _ => true) true 37 v d p) :
    ∃ (l : List ActM) (A : Option Addr) (cap : Nat), v = .slice A l.length cap ∧ l.length ≤ cap ∧ cap ≤ maxLen ∧ AR W W.heap.size A l ∧ ∀ x ∈ l, x.Ok W := by
  obtain ⟨a0, len, cap, rfl⟩ := okWide_slice Try.underlying37 hv
  obtain ⟨fuel, hf⟩ := h
  rcases open_slice_fields Try.underlying37 Try.underlying41 (by kernel_rfl) (by kernel_rfl) hf with ⟨hcs, _⟩ | ⟨a, len', cap', m, D, Pl', hcs, _, hl, hm, hmm, _, hi⟩
  · simp [Value.cells] at hcs
    obtain ⟨rfl, rfl, rfl⟩ := hcs
    exact ⟨[], none, 0, rfl, Nat.le_refl _, Nat.zero_le _, Reads.none_, by simp⟩
  · simp [Value.cells] at hcs
    obtain ⟨rfl, rfl, rfl⟩ := hcs
    obtain ⟨l, hll, hP⟩ := list_of (fun i (b : ActM) => b.Ok W ∧ ∀ j u, j < 5 → b.cs[j]? = some u → W.cell? (a.add (i * 5 + j)) = some u) len (fun i hil => by
      obtain ⟨ys, n, _, _, _, hf⟩ := hi i (by rw [hmm]; split <;> omega)
      obtain ⟨v0, y0, c0, _, t0⟩ := hf 0 _ rfl
      obtain ⟨v1, y1, c1, _, t1⟩ := hf 1 _ rfl
      obtain ⟨v2, y2, c2, _, t2⟩ := hf 2 _ rfl
      obtain ⟨v3, y3, c3, _, t3⟩ := hf 3 _ rfl
      obtain ⟨v4, y4, c4, _, t4⟩ := hf 4 _ rfl
      obtain ⟨n0, e0, _, _⟩ := DataW.trod_int Try.underlying3 t0
      obtain ⟨n1, e1, _, _⟩ := DataW.trod_int Try.underlying3 t1
      obtain ⟨n2, e2, _, _⟩ := DataW.trod_int Try.underlying3 t2
      obtain ⟨n3, e3, _, w3⟩ := DataW.trod_int Try.underlying3 t3
      obtain ⟨bl, bA, bcap, e4, g1, g2, g3⟩ := ints_row Try.underlying24 Try.underlying5 (by kernel_rfl) t4
      have b3 := bounds_i64 w3
      simp at e0 e1 e2 e3 e4
      subst e0 e1 e2 e3 e4
      refine ⟨⟨n0, n1, n2, n3, bA, bcap, bl⟩, ⟨b3.1, b3.2, g1, g2, g3⟩, fun j u hj hu => ?_⟩
      match j, hj, hu with
      | 0, _, hu => simp [ActM.cs] at hu; subst hu; exact c0
      | 1, _, hu => simp [ActM.cs] at hu; subst hu; exact c1
      | 2, _, hu => simp [ActM.cs] at hu; subst hu; exact c2
      | 3, _, hu => simp [ActM.cs] at hu; subst hu; exact c3
      | 4, _, hu => simp [ActM.cs] at hu; subst hu; exact c4)
    refine ⟨l, some a, cap, by rw [hll], by omega, hm, Reads.mk_flat l actm_len (by decide) (fun k hk j u hj hu => (hP k hk).2 j u hj hu), fun b hb => ?_⟩
    obtain ⟨i, hi, rfl⟩ := List.mem_iff_getElem.1 hb
    exact (hP i hi).1

/-- A row of bytes in a row. -/
structure Row where
  A : Option Addr
  c : Nat
  bs : List Int
def Row.cs (x : Row) : List Value := [.slice x.A x.bs.length x.c]
structure Row.Ok (W : World) (x : Row) : Prop where
  le : x.bs.length ≤ x.c
  cap : x.c ≤ maxLen
  rd : BR W W.heap.size x.A x.bs
abbrev RR (w : World) (B : Nat) (A : Option Addr) (l : List Row) : Prop := Reads w B 1 A l.length (l.flatMap Row.cs)
theorem open_rows (hv : Value.okWide Try.prog W .any base 22 v) (h : DataW.Trod enc Try.prog W 0 (fun _ => true) true 22 v d p) :
    ∃ (l : List Row) (A : Option Addr) (cap : Nat), v = .slice A l.length cap ∧ l.length ≤ cap ∧ cap ≤ maxLen ∧ RR W W.heap.size A l ∧ ∀ x ∈ l, x.Ok W := by
  obtain ⟨a0, len, cap, rfl⟩ := okWide_slice Try.underlying22 hv
  obtain ⟨fuel, hf⟩ := h
  have q24 : Try.prog.cellsOf 24 = 1 := by kernel_rfl
  rcases open_slice Try.underlying22 hf with ⟨hcs, _⟩ | ⟨a, len', cap', m, n, D, Pl, hcs, _, hl, hm, hmm, _, hi⟩
  · simp [Value.cells] at hcs
    obtain ⟨rfl, rfl, rfl⟩ := hcs
    exact ⟨[], none, 0, rfl, Nat.le_refl _, Nat.zero_le _, Reads.none_, by simp⟩
  · simp [Value.cells] at hcs
    obtain ⟨rfl, rfl, rfl⟩ := hcs
    rw [q24] at hi
    obtain ⟨l, hll, hP⟩ := list_of (fun i (b : Row) => b.Ok W ∧ ∀ j u, j < 1 → b.cs[j]? = some u → W.cell? (a.add (i * 1 + j)) = some u) len (fun i hil => by
      obtain ⟨cs', hc, ht⟩ := hi i (by rw [hmm]; simp; omega)
      obtain ⟨bl, bA, bcap, e4, g1, g2, g3⟩ := ints_row Try.underlying24 Try.underlying5 (by kernel_rfl) ht
      subst e4
      obtain ⟨_, _, hat⟩ := World.cells?_some hc
      refine ⟨⟨bA, bcap, bl⟩, ⟨g1, g2, g3⟩, fun j u hj hu => ?_⟩
      rw [← Go.Deep.add_add, hat j hj]
      exact hu)
    refine ⟨l, some a, cap, by rw [hll], by omega, hm, Reads.mk_flat l (fun _ => rfl) (by decide) (fun k hk j u hj hu => (hP k hk).2 j u hj hu), fun b hb => ?_⟩
    obtain ⟨i, hi, rfl⟩ := List.mem_iff_getElem.1 hb
    exact (hP i hi).1
end
end Go.Proofs.Ytfmflbcmigiciaa
