/- More general lemmas: laws at guarded operations. -/
import Derived.Test.YtpmkpkfkimcpjaaBase
import Derived.OpenShut
namespace Go.Proofs.Ytpmkpkfkimcpjaa
open Go.RowKit Go.WideShapes Go.ChangeShapes

theorem wpList_append_want {P : Program} (w : World) {ops : Array Oper} {rest : List Oper} {o : Oper} {a : Act} {Q : Exit → Act → World → Prop} (hw : Region.wanted o (yielded ops a.tmps) = true) (s x : Operand) (t : TypeId)
    (ho : o.op = .call { callee := .builtin .append, args := #[s, x], argTypes := #[t, t] })
    (base : Nat) (e : TypeId) (i : TypeInfo) (z : Value) (size bytes : Nat) (ht : P.underlying t = some (.slice e)) (hi : P.info? e = some i) (hz : i.zero = some z)
    (hsize : i.size = size) (hby : i.bytes = bytes) (hzs : z.cells.size = size) (hsz : 0 < size)
    (v : Value) (n : Nat) (xs : List Value) (hs : a.eval s = v) (hown : w.ownsRow base e size v n xs)
    (B : Nat) (A : Option Addr) (m c : Nat) (news : List Value) (hx : a.eval x = .slice A m c) (hr : Reads w B size A m news) (h1 : ∀ u ∈ news, u.oneCell' = true)
    (h63 : n + m ≤ maxLen) (hbytes : (n + m) * bytes ≤ 140737488355328) (hbase : base ≤ w.heap.size)
    (h : ∀ v' w', w'.ownsRow base e size v' (n + m) (xs ++ news) → w.grownBy w' v.ownBlock → (v'.ownBlock = v.ownBlock ∨ v'.ownBlock = some w.heap.size) → wpList P ops Q rest (a.put o.dst v') w') : wpList P ops Q (o :: rest) a w :=
  BigFrame.wpList_want hw fun _ hK => wp_append_any w s x t ho base e i z size bytes ht hi hz hsize hby hzs hsz v n xs hs hown B A m c news hx hr h1 h63 hbytes hbase fun v' w' h2 h3 h4 => hK _ _ (h v' w' h2 h3 h4)

/-- What 'append([]T{}, xs...)' leaves: a slice of the call's own that reads as xs. -/
theorem own_reads {w : World} {base : Nat} {e : TypeId} {size n : Nat} {v : Value} {xs : List Value} (h : w.ownsRow base e size v n xs) :
    ∃ A c, v = .slice A n c ∧ n ≤ c ∧ c ≤ maxLen ∧ Reads w w.heap.size size A n xs := by
  obtain ⟨A, c, rfl, h1, h2⟩ := own_form h
  exact ⟨A, c, rfl, h1, h2, Reads.of_own h⟩

theorem list_of {α : Type} (P : Nat → α → Prop) (n : Nat) (h : ∀ i, i < n → ∃ x, P i x) : ∃ l : List α, l.length = n ∧ ∀ i (hi : i < l.length), P i l[i] := by
  induction n with
  | zero => exact ⟨[], rfl, fun i hi => by simp at hi⟩
  | succ n ih =>
    obtain ⟨l, hl, hp⟩ := ih (fun i hi => h i (by omega))
    obtain ⟨x, hx⟩ := h n (by omega)
    refine ⟨l ++ [x], by simp [hl], fun i hi => ?_⟩
    by_cases hi2 : i < l.length
    · rw [List.getElem_append_left hi2]; exact hp i hi2
    · have : i = l.length := by simp at hi; omega
      subst this
      rw [List.getElem_append_right (by omega)]
      simpa [hl] using hx
theorem Reads.mk_flat {α : Type} {w : World} {s : Nat} {a : Addr} {f : α → List Value} (l : List α) (hf : ∀ x, (f x).length = s) (hs : 0 < s)
    (h : ∀ k (hk : k < l.length) j u, j < s → (f l[k])[j]? = some u → w.cell? (a.add (k * s + j)) = some u) : Reads w w.heap.size s (some a) l.length (l.flatMap f) := by
  have hall : ∀ j u, (l.flatMap f)[j]? = some u → w.cell? (a.add j) = some u := fun j u hu => by
    have hj : j < l.length * s := by rw [← flat_len f s hf l]; exact (List.getElem?_eq_some_iff.1 hu).1
    have hk : j / s < l.length := Nat.div_lt_of_lt_mul (by rw [Nat.mul_comm]; exact hj)
    have hd : j / s * s + j % s = j := by rw [Nat.mul_comm]; exact Nat.div_add_mod j s
    have hm := Nat.mod_lt j hs
    have := h (j / s) hk (j % s) u hm (by rw [← flat_get f s hf l _ _ hk hm, hd]; exact hu)
    rwa [hd] at this
  refine ⟨flat_len f s hf l, fun hn => ⟨a, rfl, ?_, hall⟩⟩
  have h0 := hall 0 _ (List.getElem?_eq_getElem (by rw [flat_len f s hf l]; exact Nat.mul_pos hn hs))
  have := World.block_lt_of_cell? w _ h0
  rwa [block_of_add] at this
theorem Reads.mk_map {α : Type} {w : World} {a : Addr} {f : α → Value} (l : List α) (h : ∀ k (hk : k < l.length), w.cell? (a.add k) = some (f l[k])) : Reads w w.heap.size 1 (some a) l.length (l.map f) := by
  refine ⟨by simp, fun hn => ⟨a, rfl, ?_, fun j u hu => ?_⟩⟩
  · have h0 := World.block_lt_of_cell? w _ (h 0 hn)
    rwa [block_of_add] at h0
  · have hj : j < l.length := by have := (List.getElem?_eq_some_iff.1 hu).1; simpa using this
    rw [List.getElem?_map, List.getElem?_eq_getElem hj] at hu
    rw [h j hj]; exact hu
/-- A slice of integers that came in. -/
theorem open_ints_list {H : Type} {enc : TypeId × Value → H} {P : Program} {W : World} {base : Nat} {t e : TypeId} {k : IntKind} {v : Value} {d : DataW H} {p : List MemPlace}
    (ht : P.underlying t = some (.slice e)) (he : P.underlying e = some (.int k)) (hC : P.cellsOf e = 1) (hv : Value.okWide P W .any base t v) (h : DataW.Trod enc P W 0 (fun _ => true) true t v d p) :
    ∃ (l : List Int) (A : Option Addr) (cap : Nat), v = .slice A l.length cap ∧ l.length ≤ cap ∧ cap ≤ maxLen ∧ Reads W W.heap.size 1 A l.length (l.map (.int k)) ∧ ∀ n ∈ l, (Lit.int k n).wf = true := by
  obtain ⟨a0, len, cap, rfl⟩ := okWide_slice ht hv
  obtain ⟨fuel, hf⟩ := h
  rcases open_ints ht he hC hf with ⟨hcs, _⟩ | ⟨x, l, c, zs, hcs, _, hl, hm, hz, _, hcell, hwz⟩
  · simp [Value.cells] at hcs
    obtain ⟨rfl, rfl, rfl⟩ := hcs
    exact ⟨[], none, 0, rfl, Nat.le_refl _, Nat.zero_le _, Reads.none_, by simp⟩
  · simp [Value.cells] at hcs
    obtain ⟨rfl, rfl, rfl⟩ := hcs
    have hzl : zs.length = cap := by simpa using hz
    have hlen : (zs.take len).length = len := by simp; omega
    refine ⟨zs.take len, some x, cap, by rw [hlen], by omega, hm, ?_, fun n hn => hwz n (List.mem_of_mem_take hn)⟩
    refine Reads.mk_map (zs.take len) fun k hk => ?_
    rw [hcell k (by omega), List.getElem_take]
    congr 2
    rw [List.getD_eq_getElem?_getD, List.getElem?_eq_getElem (by omega)]; rfl

/-- Behind 'append([]T{}, xs...)'. -/
theorem lit_post {w1 w2 : World} {o : Obj} {e : TypeId} {size n m c : Nat} {v : Value} {xs : List Value} (hown : w2.ownsRow w1.heap.size e size v n xs) (hg : (w1.alloc o).grownBy w2 (Value.slice (some ⟨w1.heap.size, 0, none⟩) m c).ownBlock) :
    Below w1.heap.size w1 w2 ∧ w1.heap.size < w2.heap.size ∧ ∃ A c, v = .slice A n c ∧ n ≤ c ∧ c ≤ maxLen ∧ Reads w2 w2.heap.size size A n xs ∧ w2.ownsRow w1.heap.size e size (.slice A n c) n xs := by
  refine ⟨((Below.refl _ _).alloc (Nat.le_refl _) _).grown hg (by simp) (fun k hk => by simp [Value.ownBlock] at hk; omega), by have := hg.size; simp at this; omega, ?_⟩
  obtain ⟨A, c, rfl, h1, h2⟩ := own_form hown
  exact ⟨A, c, rfl, h1, h2, Reads.of_own hown, hown⟩
/-- Behind 'append(l, x..)' onto a row of the call's own, in the world w (with the new block that holds x..). -/
theorem app_post {w w2 : World} {o : Obj} {base : Nat} {e : TypeId} {size n0 n : Nat} {v0 v : Value} {xs0 xs : List Value} (hown0 : w.ownsRow base e size v0 n0 xs0) (hown : w2.ownsRow base e size v n xs) (hg : (w.alloc o).grownBy w2 v0.ownBlock) (hbase : base ≤ w.heap.size) :
    Below base w w2 ∧ w.heap.size < w2.heap.size ∧ ∃ A c, v = .slice A n c ∧ n ≤ c ∧ c ≤ maxLen ∧ Reads w2 w2.heap.size size A n xs ∧ w2.ownsRow base e size (.slice A n c) n xs := by
  refine ⟨((Below.refl _ _).alloc hbase _).grown hg (by simp; omega) (fun k hk => (hown0.lt k hk).1), by have := hg.size; simp at this; omega, ?_⟩
  obtain ⟨A, c, rfl, h1, h2⟩ := own_form hown
  exact ⟨A, c, rfl, h1, h2, Reads.of_own hown, hown⟩

theorem below_of_drew {w w' : World} (h : Below w.drew.heap.size w.drew w') : Below w.heap.size w w' := ⟨h.os, h.tape, h.output, h.size, h.block⟩
theorem blk_cells3 {ι : Type} {f : ι → World} {g : Nat} {t : TypeId} {v0 v1 v2 : Value} (h : ∀ i, Blk (f i) g t #[v0, v1, v2]) :
    (∀ i, (f i).cell? ⟨g, 0, none⟩ = some v0) ∧ (∀ i, (f i).cell? ⟨g, 1, none⟩ = some v1) ∧ (∀ i, (f i).cell? ⟨g, 2, none⟩ = some v2) :=
  ⟨fun i => (h i).cell 0, fun i => (h i).cell 1, fun i => (h i).cell 2⟩
theorem blk_cell3 {w : World} {g : Nat} {t : TypeId} {v0 v1 v2 : Value} (h : Blk w g t #[v0, v1, v2]) :
    w.cell? ⟨g, 0, none⟩ = some v0 ∧ w.cell? ⟨g, 1, none⟩ = some v1 ∧ w.cell? ⟨g, 2, none⟩ = some v2 := ⟨h.cell 0, h.cell 1, h.cell 2⟩

end Go.Proofs.Ytpmkpkfkimcpjaa
