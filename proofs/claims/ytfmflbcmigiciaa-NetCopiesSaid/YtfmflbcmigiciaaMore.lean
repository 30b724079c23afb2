/- More general lemmas: laws at guarded operations. -/
import Derived.Test.YtfmflbcmigiciaaBase
import Derived.OpenShut
namespace Go.Proofs.Ytfmflbcmigiciaa
open Go.RowKit Go.WideShapes Go.ChangeShapes

theorem wpList_append_want {P : Program} (w : World) {ops : Array Oper} {rest : List Oper} {o : Oper} {a : Act} {Q : Exit → Act → World → Prop} (hw : Region.wanted o (yielded ops a.tmps) = true) (s x : Operand) (t : TypeId)
    (ho : o.op = .call { callee := .builtin .append, args := #[s, x], argTypes := #[t, t] })
    (base : Nat) (e : TypeId) (i : TypeInfo) (z : Value) (size bytes : Nat) (ht : P.underlying t = some (.slice e)) (hi : P.info? e = some i) (hz : i.zero = some z)
    (hsize : i.size = size) (hby : i.bytes = bytes) (hzs : z.cells.size = size) (hsz : 0 < size)
    (v : Value) (n : Nat) (xs : List Value) (hs : a.eval s = v) (hown : w.ownsRow base e size v n xs)
    (B : Nat) (A : Option Addr) (m c : Nat) (news : List Value) (hx : a.eval x = .slice A m c) (hr : Reads w B size A m news) (h1 : ∀ u ∈ news, u.oneCell' = true)
    (h63 : n + m ≤ maxLen) (hbytes : (n + m) * bytes ≤ 140737488355328) (hbase : base ≤ w.heap.size)
    (h : ∀ v' w', w'.ownsRow base e size v' (n + m) (xs ++ news) → w.grownBy w' v.ownBlock → (v'.ownBlock = v.ownBlock ∨ v'.ownBlock = some w.heap.size) → wpList P ops Q rest (a.put o.dst v') w') : wpList P ops Q (o :: rest) a w :=
  BigFrame.wpList_want hw fun _ hK => wp_append_any w s x t ho base e i z size bytes ht hi hz hsize hby hzs hsz v n xs hs hown B A m c news hx hr h1 h63 hbytes hbase fun v' w' h2 h3 h4 => hK _ _ (h v' w' h2 h3 h4)

/-- What 'append([]T{}, xs...)' leaves: a slice of the call's own that reads as xs. -/
theorem own_reads {w : World} {base : Nat} {e : TypeId} {size n : Nat} {v : Value} {xs : List Value} (h : w.ownsRow base e size v n xs) :
    ∃ A c, v = .slice A n c ∧ n ≤ c ∧ c ≤ maxLen ∧ Reads w w.heap.size size A n xs := by
  obtain ⟨A, c, rfl, h1, h2⟩ := own_form h
  exact ⟨A, c, rfl, h1, h2, Reads.of_own h⟩

theorem list_of {α : Type} (P : Nat → α → Prop) (n : Nat) (h : ∀ i, i < n → ∃ x, P i x) : ∃ l : List α, l.length = n ∧ ∀ i (hi : i < l.length), P i l[i] := by
  induction n with
  | zero => exact ⟨[], rfl, fun i hi => by simp at hi⟩
  | succ n ih =>
    obtain ⟨l, hl, hp⟩ := ih (fun i hi => h i (by omega))
    obtain ⟨x, hx⟩ := h n (by omega)
    refine ⟨l ++ [x], by simp [hl], fun i hi => ?_⟩
    by_cases hi2 : i < l.length
    · rw [List.getElem_append_left hi2]; exact hp i hi2
    · have : i = l.length := by simp at hi; omega
      subst this
      rw [List.getElem_append_right (by omega)]
      simpa [hl] using hx
theorem Reads.mk_flat {α : Type} {w : World} {s : Nat} {a : Addr} {f : α → List Value} (l : List α) (hf : ∀ x, (f x).length = s) (hs : 0 < s)
    (h : ∀ k (hk : k < l.length) j u, j < s → (f l[k])[j]? = some u → w.cell? (a.add (k * s + j)) = some u) : Reads w w.heap.size s (some a) l.length (l.flatMap f) := by
  have hall : ∀ j u, (l.flatMap f)[j]? = some u → w.cell? (a.add j) = some u := fun j u hu => by
    have hj : j < l.length * s := by rw [← flat_len f s hf l]; exact (List.getElem?_eq_some_iff.1 hu).1
    have hk : j / s < l.length := Nat.div_lt_of_lt_mul (by rw [Nat.mul_comm]; exact hj)
    have hd : j / s * s + j % s = j := by rw [Nat.mul_comm]; exact Nat.div_add_mod j s
    have hm := Nat.mod_lt j hs
    have := h (j / s) hk (j % s) u hm (by rw [← flat_get f s hf l _ _ hk hm, hd]; exact hu)
    rwa [hd] at this
  refine ⟨flat_len f s hf l, fun hn => ⟨a, rfl, ?_, hall⟩⟩
  have h0 := hall 0 _ (List.getElem?_eq_getElem (by rw [flat_len f s hf l]; exact Nat.mul_pos hn hs))
  have := World.block_lt_of_cell? w _ h0
  rwa [block_of_add] at this
theorem Reads.mk_map {α : Type} {w : World} {a : Addr} {f : α → Value} (l : List α) (h : ∀ k (hk : k < l.length), w.cell? (a.add k) = some (f l[k])) : Reads w w.heap.size 1 (some a) l.length (l.map f) := by
  refine ⟨by simp, fun hn => ⟨a, rfl, ?_, fun j u hu => ?_⟩⟩
  · have h0 := World.block_lt_of_cell? w _ (h 0 hn)
    rwa [block_of_add] at h0
  · have hj : j < l.length := by have := (List.getElem?_eq_some_iff.1 hu).1; simpa using this
    rw [List.getElem?_map, List.getElem?_eq_getElem hj] at hu
    rw [h j hj]; exact hu
/-- A slice of integers that came in. -/
theorem open_ints_list {H : Type} {enc : TypeId × Value → H} {P : Program} {W : World} {base : Nat} {t e : TypeId} {k : IntKind} {v : Value} {d : DataW H} {p : List MemPlace}
    (ht : P.underlying t = some (.slice e)) (he : P.underlying e = some (.int k)) (hC : P.cellsOf e = 1) (hv : Value.okWide P W .any base t v) (h : DataW.Trod enc P W 0 (fun _ => true) true t v d p) :
    ∃ (l : List Int) (A : Option Addr) (cap : Nat), v = .slice A l.length cap ∧ l.length ≤ cap ∧ cap ≤ maxLen ∧ Reads W W.heap.size 1 A l.length (l.map (.int k)) ∧ ∀ n ∈ l, (Lit.int k n).wf = true := by
  obtain ⟨a0, len, cap, rfl⟩ := okWide_slice ht hv
  obtain ⟨fuel, hf⟩ := h
  rcases open_ints ht he hC hf with ⟨hcs, _⟩ | ⟨x, l, c, zs, hcs, _, hl, hm, hz, _, hcell, hwz⟩
  · simp [Value.cells] at hcs
    obtain ⟨rfl, rfl, rfl⟩ := hcs
    exact ⟨[], none, 0, rfl, Nat.le_refl _, Nat.zero_le _, Reads.none_, by simp⟩
  · simp [Value.cells] at hcs
    obtain ⟨rfl, rfl, rfl⟩ := hcs
    have hzl : zs.length = cap := by simpa using hz
    have hlen : (zs.take len).length = len := by simp; omega
    refine ⟨zs.take len, some x, cap, by rw [hlen], by omega, hm, ?_, fun n hn => hwz n (List.mem_of_mem_take hn)⟩
    refine Reads.mk_map (zs.take len) fun k hk => ?_
    rw [hcell k (by omega), List.getElem_take]
    congr 2
    rw [List.getD_eq_getElem?_getD, List.getElem?_eq_getElem (by omega)]; rfl

/-- Behind 'append([]T{}, xs...)'. -/
theorem lit_post {w1 w2 : World} {o : Obj} {e : TypeId} {size n m c : Nat} {v : Value} {xs : List Value} (hown : w2.ownsRow w1.heap.size e size v n xs) (hg : (w1.alloc o).grownBy w2 (Value.slice (some ⟨w1.heap.size, 0, none⟩) m c).ownBlock) :
    Below w1.heap.size w1 w2 ∧ w1.heap.size < w2.heap.size ∧ ∃ A c, v = .slice A n c ∧ n ≤ c ∧ c ≤ maxLen ∧ Reads w2 w2.heap.size size A n xs ∧ w2.ownsRow w1.heap.size e size (.slice A n c) n xs := by
  refine ⟨((Below.refl _ _).alloc (Nat.le_refl _) _).grown hg (by simp) (fun k hk => by simp [Value.ownBlock] at hk; omega), by have := hg.size; simp at this; omega, ?_⟩
  obtain ⟨A, c, rfl, h1, h2⟩ := own_form hown
  exact ⟨A, c, rfl, h1, h2, Reads.of_own hown, hown⟩
/-- Behind 'append(l, x..)' onto a row of the call's own, in the world w (with the new block that holds x..). -/
theorem app_post {w w2 : World} {o : Obj} {base : Nat} {e : TypeId} {size n0 n : Nat} {v0 v : Value} {xs0 xs : List Value} (hown0 : w.ownsRow base e size v0 n0 xs0) (hown : w2.ownsRow base e size v n xs) (hg : (w.alloc o).grownBy w2 v0.ownBlock) (hbase : base ≤ w.heap.size) :
    Below base w w2 ∧ w.heap.size < w2.heap.size ∧ ∃ A c, v = .slice A n c ∧ n ≤ c ∧ c ≤ maxLen ∧ Reads w2 w2.heap.size size A n xs ∧ w2.ownsRow base e size (.slice A n c) n xs := by
  refine ⟨((Below.refl _ _).alloc hbase _).grown hg (by simp; omega) (fun k hk => (hown0.lt k hk).1), by have := hg.size; simp at this; omega, ?_⟩
  obtain ⟨A, c, rfl, h1, h2⟩ := own_form hown
  exact ⟨A, c, rfl, h1, h2, Reads.of_own hown, hown⟩

theorem below_of_drew {w w' : World} (h : Below w.drew.heap.size w.drew w') : Below w.heap.size w w' := ⟨h.os, h.tape, h.output, h.size, h.block⟩
theorem blk_cells3 {ι : Type} {f : ι → World} {g : Nat} {t : TypeId} {v0 v1 v2 : Value} (h : ∀ i, Blk (f i) g t #[v0, v1, v2]) :
    (∀ i, (f i).cell? ⟨g, 0, none⟩ = some v0) ∧ (∀ i, (f i).cell? ⟨g, 1, none⟩ = some v1) ∧ (∀ i, (f i).cell? ⟨g, 2, none⟩ = some v2) :=
  ⟨fun i => (h i).cell 0, fun i => (h i).cell 1, fun i => (h i).cell 2⟩
theorem blk_cell3 {w : World} {g : Nat} {t : TypeId} {v0 v1 v2 : Value} (h : Blk w g t #[v0, v1, v2]) :
    w.cell? ⟨g, 0, none⟩ = some v0 ∧ w.cell? ⟨g, 1, none⟩ = some v1 ∧ w.cell? ⟨g, 2, none⟩ = some v2 := ⟨h.cell 0, h.cell 1, h.cell 2⟩


/-! ### A region that draws its order, its head given operation by operation: each operation's value meets a predicate that no growth of memory takes away. -/
namespace Rg
structure Spec where
  p : Value → World → Prop
  st : ∀ v w w', Below w.heap.size w w' → p v w → p v w'
def Spec.is (c : Value) : Spec := ⟨fun v _ => v = c, fun _ _ _ _ h => h⟩
def Spec.blk (B : Nat) (mk : Nat → Value) (t : TypeId) (cs : Array Value) : Spec :=
  ⟨fun v w => ∃ g, B ≤ g ∧ v = mk g ∧ Blk w g t cs, fun _ _ _ hb ⟨g, h1, h2, h3⟩ => ⟨g, h1, h2, h3.below hb h3.lt⟩⟩
def Spec.rd (size n : Nat) (xs : List Value) : Spec :=
  ⟨fun v w => ∃ A c, v = .slice A n c ∧ n ≤ c ∧ Reads w w.heap.size size A n xs, fun _ _ _ hb ⟨A, c, h1, h2, h3⟩ => ⟨A, c, h1, h2, (h3.below hb).more hb.size⟩⟩

section
variable {P : Program} {ops : Array Oper}

def S (specs : List (Tmp × Spec)) (t : Tmp) (v : Value) (w : World) : Prop := ∀ s ∈ specs, s.1 = t → s.2.p v w
theorem S.st {specs : List (Tmp × Spec)} {t : Tmp} {v : Value} {w w' : World} (h : S specs t v w) (hb : Below w.heap.size w w') : S specs t v w' := fun s hs ht => s.2.st _ _ _ hb (h s hs ht)
def fr (specs : List (Tmp × Spec)) (a : Act) (vals : Tmp → Value) : Act := (specs.map (·.1)).foldl (fun a t => a.put (some t) (vals t)) a

theorem foldl_tmps (vals : Tmp → Value) : ∀ (D : List Tmp) (a : Act), (D.foldl (fun a t => a.put (some t) (vals t)) a).defers = a.defers ∧ (D.foldl (fun a t => a.put (some t) (vals t)) a).tmps.size = a.tmps.size ∧
    ∀ t, (D.foldl (fun a t => a.put (some t) (vals t)) a).tmps[t]? = if t ∈ D ∧ t < a.tmps.size then some (vals t) else a.tmps[t]?
  | [], a => ⟨rfl, rfl, fun t => by simp⟩
  | d :: D, a => by
    obtain ⟨h1, h2, h3⟩ := foldl_tmps vals D (a.put (some d) (vals d))
    refine ⟨h1.trans rfl, h2.trans (by simp [Act.put]), fun t => ?_⟩
    rw [List.foldl_cons, h3 t]
    simp only [Act.put, Array.size_setIfInBounds, List.mem_cons, Array.getElem?_setIfInBounds]
    by_cases ht : t < a.tmps.size
    · by_cases hD : t ∈ D
      · simp [hD, ht]
      · by_cases hd : d = t
        · subst hd; simp [ht]
        · simp [hD, hd, ht, Ne.symm hd]
    · by_cases hd : d = t
      · subst hd; simp [ht]
      · simp [ht, hd]
theorem fr_put {specs : List (Tmp × Spec)} {a : Act} {vals : Tmp → Value} {d : Tmp} (hd : d ∈ specs.map (·.1)) (v : Value) :
    (fr specs a vals).put (some d) v = fr specs a (fun t => if t = d then v else vals t) := by
  obtain ⟨p1, p2, p3⟩ := foldl_tmps vals (specs.map (·.1)) a
  obtain ⟨q1, q2, q3⟩ := foldl_tmps (fun t => if t = d then v else vals t) (specs.map (·.1)) a
  change (fr specs a vals).defers = a.defers at p1
  change (fr specs a vals).tmps.size = a.tmps.size at p2
  change ∀ t, (fr specs a vals).tmps[t]? = _ at p3
  change (fr specs a (fun t => if t = d then v else vals t)).defers = a.defers at q1
  change ∀ t, (fr specs a (fun t => if t = d then v else vals t)).tmps[t]? = _ at q3
  have e1 : ((fr specs a vals).put (some d) v).tmps = (fr specs a (fun t => if t = d then v else vals t)).tmps := by
    apply Array.ext_getElem?
    intro t
    rw [q3 t]
    simp only [Act.put, Array.getElem?_setIfInBounds, p2]
    by_cases hdt : d = t
    · subst hdt
      by_cases ht : d < a.tmps.size
      · simp [ht, hd]
      · simp [ht]
    · rw [if_neg hdt, p3]
      simp [Ne.symm hdt]
  have e2 : ((fr specs a vals).put (some d) v).defers = (fr specs a (fun t => if t = d then v else vals t)).defers := p1.trans q1.symm
  cases h3 : (fr specs a vals).put (some d) v
  cases h4 : fr specs a (fun t => if t = d then v else vals t)
  rw [h3, h4] at e1 e2
  simp only at e1 e2
  rw [e1, e2]

/-- The operations of the head: each writes one slot of the list, no two the same; whatever slot of the list it looks at was written by one that it waits for. -/
def okB (ops : Array Oper) (D : List Tmp) (n : Nat) : Bool :=
  (List.range n).all fun j => match ops[j]? with
    | some o => (match o.dst with | some d => D.contains d && ((List.range n).all fun i => i == j || ((ops[i]?).bind (·.dst)) != some d) | none => true) &&
        ((o.looksAt ops).all fun t => !D.contains t || o.after.any fun e => Region.binds .any e && ((ops[e.on]?).bind (·.dst)) == some t)
    | none => false

/-- What is asked of each operation of the head. -/
def Step (P : Program) (ops : Array Oper) (Q : Exit → Act → World → Prop) (specs : List (Tmp × Spec)) (a : Act) (w : World) (o : Oper) : Prop :=
  ∀ (vals : Tmp → Value) (w' : World), Below w.heap.size w w' → (∀ t ∈ o.looksAt ops, t ∈ specs.map (·.1) → S specs t (vals t) w') →
    if Region.wanted o (yielded ops (fr specs a vals).tmps) then
      o.wp P (fr specs a vals) w' (fun a' w'' => ∃ v, a' = (fr specs a vals).put o.dst v ∧ Below w'.heap.size w' w'' ∧ ∀ d, o.dst = some d → S specs d v w'') Q ∨ (o.asks P (fr specs a vals) w' ∧ LetsOut Q)
    else ∀ d, o.dst = some d → S specs d undef w'

theorem phase (hb : Seg.backB ops = true) {specs : List (Tmp × Spec)} {n : Nat} (hn : n ≤ ops.size) (hok : okB ops (specs.map (·.1)) n = true) (hbd : Seg.boundB ops n = true) {Q : Exit → Act → World → Prop} {F : Nat} {a : Act} {w : World}
    (H : ∀ j o, j < n → ops[j]? = some o → Step P ops Q specs a w o)
    (hQ : ∀ vals w', Below w.heap.size w w' → (∀ j o d, j < n → ops[j]? = some o → o.dst = some d → S specs d (vals d) w') → wpAny P .any ops Q F (Seg.pre ops.size n).toArray (fr specs a vals) w') :
    ∀ (fuel : Nat) (L : List Bool) (vals : Tmp → Value) (w' : World), L.length = n → L.count false = fuel → Seg.Closed ops (L ++ List.replicate (ops.size - n) false).toArray → Below w.heap.size w w' →
      (∀ j o d, j < n → L[j]? = some true → ops[j]? = some o → o.dst = some d → S specs d (vals d) w') → wpAny P .any ops Q (fuel + F) (L ++ List.replicate (ops.size - n) false).toArray (fr specs a vals) w' := by
  intro fuel
  induction fuel with
  | zero =>
    intro L vals w' hL hct _ hB hS
    have hall : ∀ x ∈ L, x = true := fun x hx => by
      rw [List.count_eq_zero] at hct
      cases x
      · exact absurd hx hct
      · rfl
    have e : (L ++ List.replicate (ops.size - n) false) = Seg.pre ops.size n := by
      apply List.ext_getElem?
      intro j
      rcases Nat.lt_or_ge j n with hj | hj
      · rw [List.getElem?_append_left (by omega), List.getElem?_eq_getElem (by omega), hall _ (List.getElem_mem _)]
        simp [Seg.pre, show j < ops.size by omega, hj]
      · rw [List.getElem?_append_right (by omega), List.getElem?_replicate]
        simp only [Seg.pre, List.getElem?_map]
        by_cases hj2 : j < ops.size
        · rw [if_pos (by omega), List.getElem?_range hj2]; simp; omega
        · rw [if_neg (by omega), List.getElem?_eq_none (by simpa using hj2)]; rfl
    rw [e, Nat.zero_add]
    refine hQ vals w' hB fun j o d hj ho hd => hS j o d hj ?_ ho hd
    rw [List.getElem?_eq_getElem (by omega), hall _ (List.getElem_mem _)]
  | succ fuel ih =>
    intro L vals w' hL hct hcl hB hS
    have hmem : false ∈ L := List.count_pos_iff.1 (by omega)
    obtain ⟨i1, hi1, he1⟩ := List.mem_iff_getElem.1 hmem
    have hun1 : (L ++ List.replicate (ops.size - n) false).toArray.getD i1 false = false := by simp [List.getElem?_append_left hi1, hi1, he1]
    -- something may come up
    have hready : Region.ready .any ops (L ++ List.replicate (ops.size - n) false).toArray ≠ [] := by
      intro h0
      have : ∀ k, ∀ i, i ≤ k → i < n → (L ++ List.replicate (ops.size - n) false).toArray.getD i false = true := by
        intro k
        induction k with
        | zero =>
          intro i hi hin
          refine Classical.byContradiction fun hc => ?_
          have hio : ops[i]? = some ops[i] := Array.getElem?_eq_getElem (by omega)
          have : i ∈ Region.ready .any ops (L ++ List.replicate (ops.size - n) false).toArray := by
            refine mem_ready.2 ⟨?_, _, hio, fun e he hbe => by have := Seg.back_edge hb hio e he hbe; omega⟩
            simp only [Bool.not_eq_true] at hc
            have hs : i < (L ++ List.replicate (ops.size - n) false).toArray.size := by simp; omega
            simp only [Array.getD_eq_getD_getElem?, Array.getElem?_eq_getElem hs, Option.getD_some] at hc ⊢
            exact hc
          rw [h0] at this; cases this
        | succ k ihk =>
          intro i hi hin
          refine Classical.byContradiction fun hc => ?_
          have hio : ops[i]? = some ops[i] := Array.getElem?_eq_getElem (by omega)
          have : i ∈ Region.ready .any ops (L ++ List.replicate (ops.size - n) false).toArray := by
            refine mem_ready.2 ⟨?_, _, hio, fun e he hbe => ihk _ (by have := Seg.back_edge hb hio e he hbe; omega) (by have := Seg.back_edge hb hio e he hbe; omega)⟩
            simp only [Bool.not_eq_true] at hc
            have hs : i < (L ++ List.replicate (ops.size - n) false).toArray.size := by simp; omega
            simp only [Array.getD_eq_getD_getElem?, Array.getElem?_eq_getElem hs, Option.getD_some] at hc ⊢
            exact hc
          rw [h0] at this; cases this
      rw [this i1 i1 (Nat.le_refl _) (by omega)] at hun1
      cases hun1
    rw [show fuel + 1 + F = (fuel + F) + 1 by omega]
    refine ⟨fun h0 => absurd h0 hready, fun i hi => ?_⟩
    have him := Seg.bound_stop hbd hcl (by omega) hun1 i hi
    obtain ⟨hun, oi, hoi, hall⟩ := mem_ready.1 hi
    have hiL : i < L.length := by omega
    have hLi : L[i] = false := by
      simp only [Array.getD_eq_getD_getElem?, List.getElem?_toArray, List.getElem?_append_left hiL, List.getElem?_eq_getElem hiL, Option.getD_some] at hun
      exact hun
    have hset : (L ++ List.replicate (ops.size - n) false).toArray.setIfInBounds i true = (L.set i true ++ List.replicate (ops.size - n) false).toArray := by
      simp [List.set_append_left _ _ hiL]
    have hoki := List.all_eq_true.1 hok i (List.mem_range.2 him)
    simp only [hoi, Bool.and_eq_true, List.all_eq_true] at hoki
    obtain ⟨hdst, hlooks⟩ := hoki
    have hst := H i oi him hoi vals w' hB (fun t ht htD => by
      have h1 := hlooks t ht
      simp only [Bool.or_eq_true, Bool.not_eq_true', List.contains_eq_mem, decide_eq_false_iff_not] at h1
      rcases h1 with h1 | h1
      · exact absurd htD h1
      · obtain ⟨e, he, hbe⟩ := Array.any_eq_true'.1 h1
        simp only [Bool.and_eq_true, beq_iff_eq] at hbe
        have hlt := Seg.back_edge hb hoi e he hbe.1
        have hlst := hall e he hbe.1
        have hLe : L[e.on]? = some true := by
          have h3 : e.on < L.length := by omega
          simp only [Array.getD_eq_getD_getElem?, List.getElem?_toArray, List.getElem?_append_left h3, List.getElem?_eq_getElem h3, Option.getD_some] at hlst
          rw [List.getElem?_eq_getElem h3, hlst]
        cases hoe : ops[e.on]? with
        | none => rw [hoe] at hbe; simp at hbe
        | some oe =>
          rw [hoe] at hbe
          exact hS e.on oe t (by omega) hLe hoe (by simpa using hbe.2))
    rw [hset]
    -- what stands behind it
    have after : ∀ v w'', Below w'.heap.size w' w'' → (∀ d, oi.dst = some d → S specs d v w'') → wpAny P .any ops Q (fuel + F) (L.set i true ++ List.replicate (ops.size - n) false).toArray ((fr specs a vals).put oi.dst v) w'' := by
      intro v w'' hB2 hv
      have hcount : (L.set i true).count false = fuel := by rw [List.count_set hiL, hLi, hct]; simp
      have hcl' : Seg.Closed ops (L.set i true ++ List.replicate (ops.size - n) false).toArray := by rw [← hset]; exact hcl.set hi
      cases hd : oi.dst with
      | none =>
        refine ih (L.set i true) vals w'' (by simpa using hL) hcount hcl' (hB.trans (hB2.mono hB.size)) fun j o d hj hLj ho hdo => ?_
        by_cases hji : j = i
        · subst hji
          have : o = oi := Option.some.inj (ho.symm.trans hoi)
          subst this
          rw [hd] at hdo; cases hdo
        · rw [List.getElem?_set_ne (Ne.symm hji)] at hLj
          exact (hS j o d hj hLj ho hdo).st hB2
      | some d =>
        rw [hd] at hdst
        simp only [Bool.and_eq_true, List.contains_eq_mem, decide_eq_true_eq, List.all_eq_true, List.mem_range, Bool.or_eq_true, beq_iff_eq, bne_iff_ne, ne_eq] at hdst
        rw [fr_put hdst.1]
        refine ih (L.set i true) _ w'' (by simpa using hL) hcount hcl' (hB.trans (hB2.mono hB.size)) fun j o d' hj hLj ho hdo => ?_
        by_cases hji : j = i
        · subst hji
          have : o = oi := Option.some.inj (ho.symm.trans hoi)
          subst this
          have : d' = d := Option.some.inj (hdo.symm.trans hd)
          subst this
          simp only [if_true]
          exact hv d' hd
        · rw [List.getElem?_set_ne (Ne.symm hji)] at hLj
          have hne : d' ≠ d := by
            rintro rfl
            rcases hdst.2 j hj with h | h
            · exact hji h
            · exact h (by rw [ho]; exact hdo)
          simp only [if_neg hne]
          exact (hS j o d' hj hLj ho hdo).st hB2
    unfold wpOp
    simp only [hoi]
    split
    · rename_i hw
      rw [if_pos hw] at hst
      rcases hst with hst | hst
      · refine .inl (Oper.wp_mono (fun a' w'' ⟨v, he, hB2, hv⟩ => ?_) hst)
        rw [he]
        exact after v w'' hB2 hv
      · exact .inr hst
    · rename_i hw
      rw [if_neg hw] at hst
      exact after undef w' (Below.refl _ _) hst

/-- **A region that draws its order: a head of n operations in whatever order, and a tail in one forced order.** -/
theorem region {id : Nat} {Q : Exit → Act → World → Prop} {a : Act} {w : World} {l : List Oper} (n : Nat) (specs : List (Tmp × Spec)) (hm : P.follows .mixedOrders = true)
    (hB : (Seg.backB l.toArray && okB l.toArray (specs.map (·.1)) n && Seg.boundB l.toArray n && decide (n ≤ l.length) &&
      ((List.range (l.length - n)).all fun j => decide (Region.ready .any l.toArray (Seg.pre l.toArray.size (n + j)).toArray = [n + j]))) = true)
    (H : ∀ o ∈ l.take n, Step P l.toArray Q specs a w o)
    (hQ : ∀ vals w', Below w.heap.size w w' → (∀ o ∈ l.take n, ∀ d, o.dst = some d → S specs d (vals d) w') → wpList P l.toArray Q (l.drop n) (fr specs a vals) w') : (Code.region id l.toArray true).wp P Q a w := by
  simp only [Bool.and_eq_true, decide_eq_true_eq] at hB
  obtain ⟨⟨⟨⟨hb, hok⟩, hbd⟩, hn⟩, hseq⟩ := hB
  refine wp_region_any hm ?_
  have hmem : ∀ j o, j < n → l.toArray[j]? = some o → o ∈ l.take n := fun j o hj ho => by
    have : (l.take n)[j]? = some o := by rw [List.getElem?_take_of_lt hj]; simpa using ho
    exact List.mem_of_getElem? this
  have hfr : fr specs a (fun t => a.tmps.getD t undef) = a := by
    have h1 := foldl_tmps (fun t => a.tmps.getD t undef) (specs.map (·.1)) a
    have e1 : (fr specs a (fun t => a.tmps.getD t undef)).tmps = a.tmps := by
      apply Array.ext_getElem?
      intro t
      unfold fr
      rw [h1.2.2 t]
      split
      · rename_i h
        simp [h.2]
      · rfl
    have e2 : (fr specs a (fun t => a.tmps.getD t undef)).defers = a.defers := h1.1
    cases h3 : fr specs a (fun t => a.tmps.getD t undef)
    rw [h3] at e1 e2
    cases a
    simp only at e1 e2
    rw [e1, e2]
  have := phase (P := P) (ops := l.toArray) (Q := Q) (F := l.length - n) (a := a) (w := w) hb (by simpa using hn) hok hbd (fun j o hj ho => H o (hmem j o hj ho))
    (fun vals w' hB' hS => by
      have hlen : (l.drop n).length = l.length - n := by simp
      have hs := Seg.seq (P := P) (ops := l.toArray) (Q := Q) (K := fun a w => Q .normal a w) (F := 0) (l.drop n) n (fr specs a vals) w'
        (fun j o hj => by rw [List.getElem?_drop] at hj; simpa using hj) (by rw [hlen]; exact hseq)
        (fun a w hk => by
          refine ⟨?_, hk⟩
          apply List.eq_nil_iff_forall_not_mem.2
          intro i hi
          obtain ⟨h1, o, ho, _⟩ := mem_ready.1 hi
          have h2 := (Array.getElem?_eq_some_iff.1 ho).1
          rw [Seg.pre_get, if_pos h2] at h1
          rw [hlen] at h1
          simp at h1 h2
          omega)
        (by
          have := hQ vals w' hB' (fun o ho d hd => by
            obtain ⟨j, hj, he⟩ := List.mem_iff_getElem.1 ho
            have hjn : j < n := by simp at hj; omega
            refine hS j o d hjn ?_ hd
            rw [List.getElem_take] at he
            simp [← he])
          have e : Seg.thenK Q (fun a w => Q .normal a w) = Q := by
            funext e a w
            cases e <;> rfl
          rw [e]
          exact this)
      rw [hlen] at hs
      simpa using hs)
    n (Seg.pre n 0) (fun t => a.tmps.getD t undef) { w with drawn := w.drawn + 1 } (Seg.pre_len _ _) (by rw [Seg.pre_count _ _ (by omega)]; omega)
    (by
      intro j o _ hl
      exfalso
      have : (Seg.pre n 0 ++ List.replicate (l.toArray.size - n) false).toArray.getD j false = false := by
        by_cases hj : j < n
        · simp only [Array.getD_eq_getD_getElem?, List.getElem?_toArray]
          rw [List.getElem?_append_left (by rw [Seg.pre_len]; exact hj)]
          simp [Seg.pre, hj]
        · have e0 : (Seg.pre n 0)[j]? = none := List.getElem?_eq_none (by rw [Seg.pre_len]; omega)
          simp only [Array.getD_eq_getD_getElem?, List.getElem?_toArray]
          rw [List.getElem?_append_right (by rw [Seg.pre_len]; omega), List.getElem?_replicate]
          split <;> rfl
      rw [this] at hl; cases hl) (Below.refl _ _).drew
    (fun j o d hj hL => by
      exfalso
      simp [Seg.pre, hj] at hL)
  have e : (Seg.pre n 0 ++ List.replicate (l.toArray.size - n) false).toArray = Array.replicate l.toArray.size false := by
    apply Array.ext'
    simp only [Array.toList_replicate]
    refine List.eq_replicate_iff.2 ⟨by simp [Seg.pre]; omega, fun b hb => ?_⟩
    rcases List.mem_append.1 hb with h | h
    · simp [Seg.pre] at h; exact h.2
    · exact (List.mem_replicate.1 h).2
  rw [e, hfr, show n + (l.length - n) = l.toArray.size by simp; omega] at this
  exact this
end
end Rg
namespace Rg
theorem steps_nil {P : Program} {ops : Array Oper} {Q : Exit → Act → World → Prop} {specs : List (Tmp × Spec)} {a : Act} {w : World} : ∀ o ∈ ([] : List Oper), Step P ops Q specs a w o := fun _ h => by cases h
theorem steps_cons {P : Program} {ops : Array Oper} {Q : Exit → Act → World → Prop} {specs : List (Tmp × Spec)} {a : Act} {w : World} {o : Oper} {l : List Oper} (h : Step P ops Q specs a w o) (hl : ∀ o ∈ l, Step P ops Q specs a w o) :
    ∀ o' ∈ o :: l, Step P ops Q specs a w o' := fun o' ho => by
  rcases List.mem_cons.1 ho with rfl | ho
  · exact h
  · exact hl o' ho
/-- One operation, without a guard. -/
theorem step_plain {P : Program} {ops : Array Oper} {Q : Exit → Act → World → Prop} {specs : List (Tmp × Spec)} {a : Act} {w : World} {o : Oper} (hg : o.guard = none)
    (h : ∀ (vals : Tmp → Value) (w' : World), Below w.heap.size w w' → (∀ t ∈ o.looksAt ops, t ∈ specs.map (·.1) → S specs t (vals t) w') →
      ∀ K : Act → World → Prop, (∀ v w'', Below w'.heap.size w' w'' → (∀ d, o.dst = some d → S specs d v w'') → K ((fr specs a vals).put o.dst v) w'') → o.wp P (fr specs a vals) w' K Q) : Step P ops Q specs a w o := by
  intro vals w' hb hS
  rw [if_pos (by simp [Region.wanted, hg])]
  exact .inl (h vals w' hb hS _ (fun v w'' hb' hs => ⟨v, rfl, hb', hs⟩))
/-- One operation, walked as a list of one. -/
theorem step_walk {P : Program} {ops : Array Oper} {Q : Exit → Act → World → Prop} {specs : List (Tmp × Spec)} {a : Act} {w : World} {o : Oper}
    (h : ∀ (vals : Tmp → Value) (w' : World), Below w.heap.size w w' → (∀ t ∈ o.looksAt ops, t ∈ specs.map (·.1) → S specs t (vals t) w') →
      Region.wanted o (yielded ops (fr specs a vals).tmps) = true ∧
      ∀ K : Act → World → Prop, (∀ v w'', Below w'.heap.size w' w'' → (∀ d, o.dst = some d → S specs d v w'') → K ((fr specs a vals).put o.dst v) w'') → wpList P ops (Seg.thenK Q K) [o] (fr specs a vals) w') : Step P ops Q specs a w o := by
  intro vals w' hb hS
  obtain ⟨hw, h1⟩ := h vals w' hb hS
  rw [if_pos hw]
  obtain ⟨KK, hKK⟩ : ∃ KK : Act → World → Prop, KK = fun a' w'' => ∃ v, a' = (fr specs a vals).put o.dst v ∧ Below w'.heap.size w' w'' ∧ ∀ d, o.dst = some d → S specs d v w'' := ⟨_, rfl⟩
  have h2 := h1 KK (fun v w'' hb' hs => by rw [hKK]; exact ⟨v, rfl, hb', hs⟩)
  rw [← hKK]
  unfold wpList at h2
  rw [if_pos hw] at h2
  rcases h2 with h2 | ⟨h3, a0, w0, h4⟩
  · exact .inl (Seg.Oper.wp_thenK (N := wpList P ops (Seg.thenK Q KK) []) (fun a' w'' hh => hh) h2)
  · exact .inr ⟨h3, a0, w0, h4⟩
end Rg

end Go.Proofs.Ytfmflbcmigiciaa
