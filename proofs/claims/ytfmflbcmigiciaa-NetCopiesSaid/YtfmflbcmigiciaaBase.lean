/- General lemmas for the walks of this seat: slices that read as lists, blocks known whole, regions that draw their order. No statement of the seat is proved here. -/
import Derived.WalkKit
import Derived.WalkSpells
import Derived.WalkLawsBesides
import Derived.Below
import Derived.Laws.OwnMore
import Derived.Deep.AppendLies
import Derived.Deep.Draws
import Derived.Laws.Rows
import Derived.Maps.AppendAt
import Derived.RegionTactic
import Derived.OwnWalk
import Derived.Deep.Slices
import Derived.Deep.Fields
import Derived.ChangeSame
import Derived.Lib.SmallJoins
import Derived.Tactics
import Derived.Deep.OwnRows
import Derived.Laws.AppendOwn
import Derived.Laws.MakeOwn
import Derived.Laws.Entries
import Derived.Lib.Hide
import Derived.Deep.QuietTactic
import Derived.BigQuiet
import Derived.StillTailTactics
import Derived.Deep.DeepFit
import Derived.Deep.DeepMust
import Derived.Deep.DeepCutAuto
import Derived.Deep.LoopGhost
import Derived.ProofKit
import Derived.Deep.RegionWith
namespace Go.Proofs.Ytfmflbcmigiciaa
open Go.RowKit Go.WideShapes Go.ChangeShapes Go.Deep Go.Joins

theorem block_of_add (a : Addr) (n : Nat) : (a.add n).block = a.block := by unfold Addr.add; split <;> rfl
theorem add_of_add (a : Addr) (i j : Nat) : (a.add i).add j = a.add (i + j) := by
  unfold Addr.add
  by_cases hi : i = 0 <;> by_cases hj : j = 0 <;> simp [hi, hj, Nat.add_assoc]

def Reads (w : World) (B size : Nat) (A : Option Addr) (n : Nat) (xs : List Value) : Prop :=
  xs.length = n * size ∧ (0 < n → ∃ ad, A = some ad ∧ ad.block < B ∧ ∀ j u, xs[j]? = some u → w.cell? (ad.add j) = some u)

section
variable {w w' : World} {B B' size n : Nat} {A : Option Addr} {xs : List Value}
theorem Reads.none_ : Reads w B size A 0 [] := ⟨by simp, fun h => absurd h (by omega)⟩
theorem Reads.at_ {k : Nat} (h : Reads w B 1 A n xs) (hk : k < n) : ∃ ad u, A = some ad ∧ ad.block < B ∧ xs[k]? = some u ∧ w.cell? (ad.add k) = some u := by
  obtain ⟨ad, e, hb, hc⟩ := h.2 (by omega)
  have hl : k < xs.length := by have := h.1; omega
  exact ⟨ad, xs[k], e, hb, List.getElem?_eq_getElem hl, hc k _ (List.getElem?_eq_getElem hl)⟩
theorem Reads.keep (h : Reads w B size A n xs) (hk : ∀ p : Addr, p.block < B → w'.cell? p = w.cell? p) : Reads w' B size A n xs :=
  ⟨h.1, fun hn => by
    obtain ⟨ad, e, hb, hc⟩ := h.2 hn
    exact ⟨ad, e, hb, fun j u hu => (hk _ (by rw [block_of_add]; exact hb)).trans (hc j u hu)⟩⟩
theorem Reads.more (h : Reads w B size A n xs) (hB : B ≤ B') : Reads w B' size A n xs :=
  ⟨h.1, fun hn => by
    obtain ⟨ad, e, hb, hc⟩ := h.2 hn
    exact ⟨ad, e, by omega, hc⟩⟩
theorem Reads.below (h : Reads w B size A n xs) (hb : Below B w w') : Reads w' B size A n xs := h.keep fun _ hp => hb.cell hp
theorem Reads.drew (h : Reads w B size A n xs) : Reads w.drew B size A n xs := h
theorem Reads.drewN (h : Reads w B size A n xs) (k : Nat) : Reads (w.drewN k) B size A n xs := h
theorem Reads.alloc (h : Reads w B size A n xs) (hB : B ≤ w.heap.size) (o : Obj) : Reads (w.alloc o) B size A n xs := h.keep fun p hp => World.cell?_alloc_lt w o p (by omega)
theorem Reads.setCell (h : Reads w B size A n xs) {p : Addr} (hB : B ≤ p.block) (u : Value) : Reads (w.setCell p u) B size A n xs :=
  h.keep fun q hq => World.cell?_setCell_other w p q u (fun e => by subst e; omega)
theorem Reads.grown (h : Reads w B size A n xs) {row : Option Nat} (hg : w.grownBy w' row) (hB : B ≤ w.heap.size) (hr : ∀ g, row = some g → B ≤ g) : Reads w' B size A n xs :=
  h.keep fun p hp => World.cell?_of_block (hg.block p.block (by omega) (fun e => by have := hr _ e.symm; omega))
theorem Reads.cut (h : Reads w B size A n xs) {k cap : Nat} (hk : k ≤ n) (hc : n ≤ cap) :
    Reads w B size (if cap = k then A else A.map (·.add (k * size))) (n - k) (xs.drop (k * size)) := by
  refine ⟨by rw [List.length_drop, h.1, Nat.sub_mul], fun hn => ?_⟩
  obtain ⟨ad, rfl, hb, hcell⟩ := h.2 (by omega)
  rw [if_neg (by omega)]
  refine ⟨ad.add (k * size), rfl, by rw [block_of_add]; exact hb, fun j u hu => ?_⟩
  rw [add_of_add]
  exact hcell _ u (by rw [← hu, List.getElem?_drop])
theorem Reads.of_own {base : Nat} {e : TypeId} {c : Nat} (h : w.ownsRow base e size (.slice A n c) n xs) : Reads w w.heap.size size A n xs := by
  refine ⟨h.1, fun hn => ?_⟩
  obtain ⟨g, cap, hv, _, hlt⟩ := h.form hn
  have hA : A = some ⟨g, 0, none⟩ := by injection hv
  subst hA
  exact ⟨_, rfl, hlt, h.cells (g := g) rfl⟩
end

def Blk (w : World) (g : Nat) (t : TypeId) (cs : Array Value) : Prop := w.heap[g]? = some (.cells cs t (0, 0))

section
variable {w w' : World} {g : Nat} {t : TypeId} {cs : Array Value}
theorem Blk.lt (h : Blk w g t cs) : g < w.heap.size := by
  rcases Nat.lt_or_ge g w.heap.size with hlt | hge
  · exact hlt
  · unfold Blk at h; rw [Array.getElem?_eq_none hge] at h; cases h
theorem Blk.cell (h : Blk w g t cs) (i : Nat) : w.cell? ⟨g, i, none⟩ = cs[i]? := cell_of_row w g i cs t (0, 0) h
theorem Blk.frozen (h : Blk w g t cs) (i : Nat) : w.frozen? ⟨g, i, none⟩ = false := by
  unfold Blk at h
  simp [World.frozen?, h]
theorem Blk.new (w : World) (t : TypeId) (cs : Array Value) : Blk (w.alloc (.cells cs t)) w.heap.size t cs := heap_alloc_new w _
theorem Blk.drew (h : Blk w g t cs) : Blk w.drew g t cs := h
theorem Blk.drewN (h : Blk w g t cs) (n : Nat) : Blk (w.drewN n) g t cs := h
theorem Blk.alloc (h : Blk w g t cs) (o : Obj) : Blk (w.alloc o) g t cs := (Below.heap_alloc w o g h.lt).trans h
theorem Blk.set_ (h : Blk w g t cs) (i : Nat) (u : Value) : Blk (w.setCell ⟨g, i, none⟩ u) g t (cs.setIfInBounds i u) := by
  unfold Blk at h ⊢
  simp [World.setCell, Array.getElem?_modify, h]
theorem Blk.far (h : Blk w g t cs) {p : Addr} (hp : g ≠ p.block) (u : Value) : Blk (w.setCell p u) g t cs := (Below.heap_setCell w p u g hp).trans h
theorem Blk.below {B : Nat} (h : Blk w g t cs) (hb : Below B w w') (hg : g < B) : Blk w' g t cs := (hb.block g hg).trans h
theorem Blk.grown {row : Option Nat} (h : Blk w g t cs) (hb : w.grownBy w' row) (hg : some g ≠ row) : Blk w' g t cs := (hb.block g h.lt hg).trans h
theorem Blk.ne_ {g' : Nat} {t' : TypeId} {cs' : Array Value} (h : Blk w g t cs) (h' : Blk w g' t' cs') (hne : t ≠ t') : g ≠ g' := by
  rintro rfl
  unfold Blk at h h'
  rw [h] at h'
  injection h' with h'
  injection h' with _ ht
  exact hne ht
theorem own_blk_ne {base : Nat} {e : TypeId} {size n : Nat} {v : Value} {xs : List Value} (h : w.ownsRow base e size v n xs) (hg : Blk w g t cs) (hne : e ≠ t) : v.ownBlock ≠ some g := by
  rcases h.2 with ⟨rfl, _⟩ | ⟨g', cap, cur, rfl, _, hh, _⟩
  · simp [Value.ownBlock]
  · intro he
    have : g' = g := by simpa [Value.ownBlock] using he
    subst this
    exact Blk.ne_ (t := e) hh hg hne rfl
end

section
variable {P : Program} (w : World)

theorem run_append_of_nil (base : Nat) (t ty e : TypeId) (i : TypeInfo) (size : Nat) (ht : P.underlying t = some (.slice e)) (hi : P.info? e = some i)
    (v : Value) (n : Nat) (xs : List Value) (hown : w.ownsRow base e size v n xs) (c : Nat) : (Builtin.append_ #[t, t] ty #[v, .slice none 0 c]).run P w = .ok v w := by
  rcases hown.2 with ⟨rfl, rfl⟩ | ⟨g, cap, cur, rfl, _, _, hnc, _⟩
  · simp [Builtin.append_, run_underlying ht, sizeOf, typeInfo, hi, Builtin.lenOf, Builtin.firstCells]
  · simp [Builtin.append_, run_underlying ht, sizeOf, typeInfo, hi, Builtin.lenOf, Builtin.firstCells, hnc, storeCells]

theorem run_append_any (base : Nat) (t ty e : TypeId) (i : TypeInfo) (z : Value) (size bytes : Nat) (ht : P.underlying t = some (.slice e)) (hi : P.info? e = some i) (hz : i.zero = some z)
    (hsize : i.size = size) (hby : i.bytes = bytes) (hzs : z.cells.size = size) (hsz : 0 < size)
    (v : Value) (n : Nat) (xs : List Value) (hown : w.ownsRow base e size v n xs)
    (B : Nat) (A : Option Addr) (m c : Nat) (news : List Value) (hr : Reads w B size A m news) (h1 : ∀ u ∈ news, u.oneCell' = true)
    (h63 : n + m ≤ maxLen) (hbytes : (n + m) * bytes ≤ 140737488355328) (hbase : base ≤ w.heap.size) :
    ∃ v' w', (Builtin.append_ #[t, t] ty #[v, .slice A m c]).run P w = .ok v' w' ∧ w'.ownsRow base e size v' (n + m) (xs ++ news) ∧ w.grownBy w' v.ownBlock ∧
      (v'.ownBlock = v.ownBlock ∨ v'.ownBlock = some w.heap.size) := by
  rcases A with _ | ad
  · have hm : m = 0 := by
      rcases Nat.eq_zero_or_pos m with h0 | h0
      · exact h0
      · obtain ⟨ad, h, _⟩ := hr.2 h0
        cases h
    subst hm
    have hn : news = [] := List.eq_nil_of_length_eq_zero (by simpa using hr.1)
    subst hn
    exact ⟨v, w, run_append_of_nil w base t ty e i size ht hi v n xs hown c, by simpa using hown, World.grownBy.refl w _, .inl rfl⟩
  · have hcells : ∀ j u, news[j]? = some u → w.cell? (ad.add j) = some u := by
      intro j u hu
      rcases Nat.eq_zero_or_pos m with h0 | h0
      · subst h0
        have hn : news = [] := List.eq_nil_of_length_eq_zero (by simpa using hr.1)
        subst hn
        simp at hu
      · obtain ⟨ad', h, _, hc⟩ := hr.2 h0
        injection h with h
        subst h
        exact hc j u hu
    obtain ⟨v', w', hrun, h2, h3, _, h5⟩ := run_append_own_at (P := P) w base t ty e i z size bytes ht hi hz hsize hby hzs hsz v n xs hown ad m c news hr.1 hcells h1 h63 hbytes hbase
    exact ⟨v', w', hrun, h2, h3, h5⟩

theorem wp_append_any {o : Oper} {a : Act} {K : Act → World → Prop} {Q : Exit → Act → World → Prop} (s x : Operand) (t : TypeId)
    (ho : o.op = .call { callee := .builtin .append, args := #[s, x], argTypes := #[t, t] })
    (base : Nat) (e : TypeId) (i : TypeInfo) (z : Value) (size bytes : Nat) (ht : P.underlying t = some (.slice e)) (hi : P.info? e = some i) (hz : i.zero = some z)
    (hsize : i.size = size) (hby : i.bytes = bytes) (hzs : z.cells.size = size) (hsz : 0 < size)
    (v : Value) (n : Nat) (xs : List Value) (hs : a.eval s = v) (hown : w.ownsRow base e size v n xs)
    (B : Nat) (A : Option Addr) (m c : Nat) (news : List Value) (hx : a.eval x = .slice A m c) (hr : Reads w B size A m news) (h1 : ∀ u ∈ news, u.oneCell' = true)
    (h63 : n + m ≤ maxLen) (hbytes : (n + m) * bytes ≤ 140737488355328) (hbase : base ≤ w.heap.size)
    (h : ∀ v' w', w'.ownsRow base e size v' (n + m) (xs ++ news) → w.grownBy w' v.ownBlock → (v'.ownBlock = v.ownBlock ∨ v'.ownBlock = some w.heap.size) → K (a.put o.dst v') w') : o.wp P a w K Q := by
  obtain ⟨v', w', hrun, h2, h3, h4⟩ := run_append_any (P := P) w base t o.type e i z size bytes ht hi hz hsize hby hzs hsz v n xs hown B A m c news hr h1 h63 hbytes hbase
  unfold Oper.wp execOp
  simp only [ho, resolve, invoke, builtin, Sem.run_bind, Sem.run_pure, Result.andThen_ok, List.map_toArray, List.map_cons, List.map_nil, hs, hx, hrun]
  exact h v' w' h2 h3 h4

theorem wpList_append_any {ops : Array Oper} {rest : List Oper} {o : Oper} {a : Act} {Q : Exit → Act → World → Prop} (hgd : o.guard = none) (s x : Operand) (t : TypeId)
    (ho : o.op = .call { callee := .builtin .append, args := #[s, x], argTypes := #[t, t] })
    (base : Nat) (e : TypeId) (i : TypeInfo) (z : Value) (size bytes : Nat) (ht : P.underlying t = some (.slice e)) (hi : P.info? e = some i) (hz : i.zero = some z)
    (hsize : i.size = size) (hby : i.bytes = bytes) (hzs : z.cells.size = size) (hsz : 0 < size)
    (v : Value) (n : Nat) (xs : List Value) (hs : a.eval s = v) (hown : w.ownsRow base e size v n xs)
    (B : Nat) (A : Option Addr) (m c : Nat) (news : List Value) (hx : a.eval x = .slice A m c) (hr : Reads w B size A m news) (h1 : ∀ u ∈ news, u.oneCell' = true)
    (h63 : n + m ≤ maxLen) (hbytes : (n + m) * bytes ≤ 140737488355328) (hbase : base ≤ w.heap.size)
    (h : ∀ v' w', w'.ownsRow base e size v' (n + m) (xs ++ news) → w.grownBy w' v.ownBlock → (v'.ownBlock = v.ownBlock ∨ v'.ownBlock = some w.heap.size) → wpList P ops Q rest (a.put o.dst v') w') : wpList P ops Q (o :: rest) a w :=
  wpList_plain hgd fun _ hK => wp_append_any w s x t ho base e i z size bytes ht hi hz hsize hby hzs hsz v n xs hs hown B A m c news hx hr h1 h63 hbytes hbase fun v' w' h2 h3 h4 => hK _ _ (h v' w' h2 h3 h4)

theorem step_append_any {ops : Array Oper} {o : Oper} {a : Act} {K : Act → World → Prop} {Q : Exit → Act → World → Prop} {E : Prop} (hgd : o.guard = none) (s x : Operand) (t : TypeId)
    (ho : o.op = .call { callee := .builtin .append, args := #[s, x], argTypes := #[t, t] })
    (base : Nat) (e : TypeId) (i : TypeInfo) (z : Value) (size bytes : Nat) (ht : P.underlying t = some (.slice e)) (hi : P.info? e = some i) (hz : i.zero = some z)
    (hsize : i.size = size) (hby : i.bytes = bytes) (hzs : z.cells.size = size) (hsz : 0 < size)
    (v : Value) (n : Nat) (xs : List Value) (hs : a.eval s = v) (hown : w.ownsRow base e size v n xs)
    (B : Nat) (A : Option Addr) (m c : Nat) (news : List Value) (hx : a.eval x = .slice A m c) (hr : Reads w B size A m news) (h1 : ∀ u ∈ news, u.oneCell' = true)
    (h63 : n + m ≤ maxLen) (hbytes : (n + m) * bytes ≤ 140737488355328) (hbase : base ≤ w.heap.size)
    (h : ∀ v' w', w'.ownsRow base e size v' (n + m) (xs ++ news) → w.grownBy w' v.ownBlock → (v'.ownBlock = v.ownBlock ∨ v'.ownBlock = some w.heap.size) → K (a.put o.dst v') w') :
    if Region.wanted o (yielded ops a.tmps) = true then Oper.wp P o a w K Q else E := by
  have hw : Region.wanted o (yielded ops a.tmps) = true := by simp [Region.wanted, hgd]
  rw [if_pos hw]
  exact wp_append_any w s x t ho base e i z size bytes ht hi hz hsize hby hzs hsz v n xs hs hown B A m c news hx hr h1 h63 hbytes hbase h
end

section
variable {H : Type} {enc : TypeId × Value → H} {P : Program} {w : World} {base : Nat} {spare : Nat → Bool} {held : Bool}
theorem open_slice_fields {t e : TypeId} {fs : Array Field} {fuel : Nat} {cs : List Value} {x : DataW H × List MemPlace} (ht : P.underlying t = some (.slice e)) (he : P.underlying e = some (.struct fs))
    (hone : oneCellFields P fs = true) (hC : P.cellsOf e = fs.size) (h : DataW.trod enc P w base spare held fuel t cs = some x) :
    (cs = [.slice none 0 0] ∧ x = (.nil, [])) ∨
    ∃ (a : Addr) (len cap m : Nat) (D : Nat → DataW H) (Pl : Nat → List MemPlace), cs = [.slice (some a) len cap] ∧ base ≤ a.block ∧ len ≤ cap ∧ cap ≤ maxLen ∧ m = (if spare a.block then cap else len) ∧
      x = (.slice ((List.range len).map D) ((List.range (m - len)).map fun j => D (len + j)), MemPlace.row a (m * fs.size) ++ (List.range m).flatMap Pl) ∧
      ∀ i, i < m → ∃ (ys : List (DataW H × List MemPlace)) (n : Nat), D i = .agg (ys.map (·.1)) ∧ Pl i = ys.flatMap (·.2) ∧ ys.length = fs.size ∧
        ∀ (j : Nat) (f : Field), fs[j]? = some f → ∃ (v : Value) (y : DataW H × List MemPlace), w.cell? (a.add (i * fs.size + j)) = some v ∧ ys[j]? = some y ∧ DataW.trod enc P w base spare held n f.type [v] = some y := by
  rcases open_slice ht h with h0 | ⟨a, len, cap, m, n, D, Pl, hcs, hb, hl, hm, hmm, hx, hi⟩
  · exact .inl h0
  · refine .inr ⟨a, len, cap, m, D, Pl, hcs, hb, hl, hm, hmm, by rw [hC] at hx; exact hx, fun i him => ?_⟩
    obtain ⟨cs', hc, ht'⟩ := hi i him
    rw [hC] at hc
    obtain ⟨ys, n', hn', hy, hlen, hyl, hf⟩ := DataW.trod_struct he ht'
    obtain ⟨_, hcl, hat⟩ := World.cells?_some hc
    simp only [Prod.mk.injEq] at hy
    refine ⟨ys, n', hy.1, hy.2, hyl, fun j f hj => ?_⟩
    obtain ⟨ho, hk⟩ := hone_of hone j f hj
    have hjl : j < fs.size := (Array.getElem?_eq_some_iff.1 hj).1
    have hcell := hat j hjl
    have hv : cs'[j]? = some (cs'[j]'(by omega)) := List.getElem?_eq_getElem (by omega)
    have h1 := hf j f hj
    rw [ho, hk] at h1
    have hone' : (cs'.drop j).take 1 = [cs'[j]'(by omega)] := by
      rw [List.drop_eq_getElem_cons (by omega)]
      rfl
    rw [hone'] at h1
    have hys : ys[j]? = some (ys[j]'(by omega)) := List.getElem?_eq_getElem (by omega)
    refine ⟨_, _, ?_, hys, h1.trans hys⟩
    rw [← Go.Deep.add_add, hcell, hv]
end

section
variable {H : Type} {enc : TypeId × Value → H} {P : Program} {w : World} {base : Nat} {spare : Nat → Bool} {held : Bool}
theorem open_agg5 {r : Reach} {b0 : Nat} {t : TypeId} {f0 f1 f2 f3 f4 : Field} {v : Value} {d : DataW H} {p : List MemPlace} (hs : P.underlying t = some (.struct #[f0, f1, f2, f3, f4])) (hone : oneCellFields P #[f0, f1, f2, f3, f4] = true) (hC : P.cellsOf t = 5)
    (hv : Value.okWide P w r b0 t v) (h : DataW.Trod enc P w base spare held t v d p) :
    ∃ (v0 v1 v2 v3 v4 : Value) (y0 y1 y2 y3 y4 : DataW H × List MemPlace) (n : Nat), v = .agg #[v0, v1, v2, v3, v4] ∧ d = .agg [y0.1, y1.1, y2.1, y3.1, y4.1] ∧ p = y0.2 ++ (y1.2 ++ (y2.2 ++ (y3.2 ++ y4.2))) ∧
      DataW.trod enc P w base spare held n f0.type [v0] = some y0 ∧ DataW.trod enc P w base spare held n f1.type [v1] = some y1 ∧ DataW.trod enc P w base spare held n f2.type [v2] = some y2 ∧ DataW.trod enc P w base spare held n f3.type [v3] = some y3 ∧ DataW.trod enc P w base spare held n f4.type [v4] = some y4 := by
  obtain ⟨cs, rfl, hsz⟩ := okWide_struct hs hv
  obtain ⟨l⟩ := cs
  match l, hsz.trans hC with
  | [c0, c1, c2, c3, c4], _ =>
    obtain ⟨fuel, hf⟩ := h
    obtain ⟨xs, n, _, hx, _, hlen, hg⟩ := DataW.trod_struct hs hf
    obtain ⟨o0, k0⟩ := hone_of hone 0 f0 rfl
    obtain ⟨o1, k1⟩ := hone_of hone 1 f1 rfl
    obtain ⟨o2, k2⟩ := hone_of hone 2 f2 rfl
    obtain ⟨o3, k3⟩ := hone_of hone 3 f3 rfl
    obtain ⟨o4, k4⟩ := hone_of hone 4 f4 rfl
    match xs, hlen with
    | [y0, y1, y2, y3, y4], _ =>
      simp only [Prod.mk.injEq] at hx
      exact ⟨c0, c1, c2, c3, c4, y0, y1, y2, y3, y4, n, rfl, by simpa using hx.1, by simpa using hx.2, by simpa [Value.cells, o0, k0] using hg 0 f0 rfl, by simpa [Value.cells, o1, k1] using hg 1 f1 rfl, by simpa [Value.cells, o2, k2] using hg 2 f2 rfl, by simpa [Value.cells, o3, k3] using hg 3 f3 rfl, by simpa [Value.cells, o4, k4] using hg 4 f4 rfl⟩

theorem open_agg6 {r : Reach} {b0 : Nat} {t : TypeId} {f0 f1 f2 f3 f4 f5 : Field} {v : Value} {d : DataW H} {p : List MemPlace} (hs : P.underlying t = some (.struct #[f0, f1, f2, f3, f4, f5])) (hone : oneCellFields P #[f0, f1, f2, f3, f4, f5] = true) (hC : P.cellsOf t = 6)
    (hv : Value.okWide P w r b0 t v) (h : DataW.Trod enc P w base spare held t v d p) :
    ∃ (v0 v1 v2 v3 v4 v5 : Value) (y0 y1 y2 y3 y4 y5 : DataW H × List MemPlace) (n : Nat), v = .agg #[v0, v1, v2, v3, v4, v5] ∧ d = .agg [y0.1, y1.1, y2.1, y3.1, y4.1, y5.1] ∧ p = y0.2 ++ (y1.2 ++ (y2.2 ++ (y3.2 ++ (y4.2 ++ y5.2)))) ∧
      DataW.trod enc P w base spare held n f0.type [v0] = some y0 ∧ DataW.trod enc P w base spare held n f1.type [v1] = some y1 ∧ DataW.trod enc P w base spare held n f2.type [v2] = some y2 ∧ DataW.trod enc P w base spare held n f3.type [v3] = some y3 ∧ DataW.trod enc P w base spare held n f4.type [v4] = some y4 ∧ DataW.trod enc P w base spare held n f5.type [v5] = some y5 := by
  obtain ⟨cs, rfl, hsz⟩ := okWide_struct hs hv
  obtain ⟨l⟩ := cs
  match l, hsz.trans hC with
  | [c0, c1, c2, c3, c4, c5], _ =>
    obtain ⟨fuel, hf⟩ := h
    obtain ⟨xs, n, _, hx, _, hlen, hg⟩ := DataW.trod_struct hs hf
    obtain ⟨o0, k0⟩ := hone_of hone 0 f0 rfl
    obtain ⟨o1, k1⟩ := hone_of hone 1 f1 rfl
    obtain ⟨o2, k2⟩ := hone_of hone 2 f2 rfl
    obtain ⟨o3, k3⟩ := hone_of hone 3 f3 rfl
    obtain ⟨o4, k4⟩ := hone_of hone 4 f4 rfl
    obtain ⟨o5, k5⟩ := hone_of hone 5 f5 rfl
    match xs, hlen with
    | [y0, y1, y2, y3, y4, y5], _ =>
      simp only [Prod.mk.injEq] at hx
      exact ⟨c0, c1, c2, c3, c4, c5, y0, y1, y2, y3, y4, y5, n, rfl, by simpa using hx.1, by simpa using hx.2, by simpa [Value.cells, o0, k0] using hg 0 f0 rfl, by simpa [Value.cells, o1, k1] using hg 1 f1 rfl, by simpa [Value.cells, o2, k2] using hg 2 f2 rfl, by simpa [Value.cells, o3, k3] using hg 3 f3 rfl, by simpa [Value.cells, o4, k4] using hg 4 f4 rfl, by simpa [Value.cells, o5, k5] using hg 5 f5 rfl⟩
end

theorem results_tmp4 {fn : Func} {t u v x : Tmp} (h : fn.results = #[.tmp t, .tmp u, .tmp v, .tmp x]) (tmps : Array Value) (P : Program) (w : World) :
    (results fn tmps).run P w = .ok (.tuple #[tmps.getD t undef, tmps.getD u undef, tmps.getD v undef, tmps.getD x undef]) w := by simp [results, h]
theorem results_tmp5 {fn : Func} {t u v x y : Tmp} (h : fn.results = #[.tmp t, .tmp u, .tmp v, .tmp x, .tmp y]) (tmps : Array Value) (P : Program) (w : World) :
    (results fn tmps).run P w = .ok (.tuple #[tmps.getD t undef, tmps.getD u undef, tmps.getD v undef, tmps.getD x undef, tmps.getD y undef]) w := by simp [results, h]

theorem below_drewN {B : Nat} {a w : World} (h : Below B a w) (n : Nat) : Below B a (w.drewN n) := ⟨h.os, h.tape, h.output, h.size, h.block⟩
theorem rowIs_drewN {w : World} {b : Nat} {t : TypeId} {n : Nat} {f : Nat → Value} (h : w.rowIs b t n f) (k : Nat) : (w.drewN k).rowIs b t n f := h
theorem grown_trans {a b c : World} (h : Grown a b) (k : Grown b c) : Grown a c :=
  ⟨World.keptBut_trans h.1 k.1, fun x => (k.2.1 x).trans (h.2.1 x), Nat.le_trans h.2.2 k.2.2⟩

theorem only_drewN {a w : World} {row : Option Nat} (h : a.grownBy w row) (n : Nat) : a.grownBy (w.drewN n) row := ⟨h.os, h.tape, h.output, h.size, h.block⟩
theorem only_drew {a w : World} {row : Option Nat} (h : a.grownBy w row) : a.grownBy w.drew row := ⟨h.os, h.tape, h.output, h.size, h.block⟩
theorem only_alloc {a w : World} {row : Option Nat} (h : a.grownBy w row) (o : Obj) : a.grownBy (w.alloc o) row :=
  ⟨h.os, h.tape, h.output, Nat.le_trans h.size (by simp), fun i hi hne => (Below.heap_alloc w o i (Nat.lt_of_lt_of_le hi h.size)).trans (h.block i hi hne)⟩
theorem only_setCell {a w : World} {g : Nat} (h : a.grownBy w (some g)) {p : Addr} (hp : p.block = g ∨ a.heap.size ≤ p.block) (u : Value) : a.grownBy (w.setCell p u) (some g) :=
  ⟨h.os, h.tape, h.output, by simpa [World.setCell] using h.size, fun i hi hne => (Below.heap_setCell w p u i (by
    rintro rfl
    rcases hp with hp | hp
    · exact hne (by rw [hp])
    · omega)).trans (h.block i hi hne)⟩
theorem only_of_below {a w : World} (h : Below a.heap.size a w) (row : Option Nat) : a.grownBy w row := ⟨h.os, h.tape, h.output, h.size, fun i hi _ => h.block i hi⟩

theorem run_make_rowN {P : Program} (t e : TypeId) (i : TypeInfo) (z : Value) (ht : P.underlying t = some (.slice e)) (hi : P.info? e = some i) (hz : i.zero = some z)
    (kl kc : IntKind) (n c : Nat) (hnc : n ≤ c) (hbytes : i.bytes * c ≤ 281474976710656) (h63 : c ≤ 9223372036854775807) (w : World) :
    (Instr.makeSlice t (.int kl (n : Int)) (.int kc (c : Int))).run P w = .ok (.slice (some ⟨w.heap.size, 0, none⟩) n c) (w.alloc (.cells (madeCells z.cells (c * i.size)) e)) := by
  have hb : (i.bytes : Int) * (c : Int) ≤ 281474976710656 := by
    have h : ((i.bytes * c : Nat) : Int) ≤ 281474976710656 := by omega
    rwa [Int.natCast_mul] at h
  have hr := run_make (P := P) w t e i z ht hi hz kl kc n c (by omega) (by omega) hb (by omega)
  simp only [Int.toNat_natCast] at hr
  exact hr
theorem run_makeMap_hint {P : Program} (t k e : TypeId) (kd : IntKind) (n : Int) (ht : P.underlying t = some (.map k e)) (w : World) :
    (Instr.makeMap t (some (.int kd n))).run P w = .ok (.map (some w.heap.size)) (w.alloc (.map #[] 0)) := by
  simp [Instr.makeMap, run_underlying ht]; rfl

section
variable {H : Type} {enc : TypeId × Value → H} {P : Program}
theorem post_of_below {f : Func} {s : ChangeSpec} {apart fresh handsOn again : Bool} {W W' : World} {args : Array Value} {v : Value} {ds gs : List (DataW H)} {before pa pv : List MemPlace}
    (hW : DataW.Whole enc P f.params.toList s.vars apart W args.toList ds gs before)
    (hres : ∀ (b : Nat) (sp : Nat → Bool) (hd : Bool), DataW.TrodAll enc P W' b sp hd f.resultTypes.toList (v.resultList f.resultTypes.size) (s.fn H (ds ++ gs)).results [])
    (hargs : ∀ sp : Nat → Bool, (∀ p ∈ before, sp p.block = true) → DataW.TrodAll enc P W' 0 sp true f.params.toList args.toList (s.fn H (ds ++ gs)).args pa)
    (hvars : ∀ sp : Nat → Bool, (∀ p ∈ before, sp p.block = true) → DataW.TrodVars enc P W' sp s.vars (s.fn H (ds ++ gs)).vars pv)
    (hps : before = pa ++ pv) (hb : Below W.heap.size W W')
    (hok : ∀ (j : Nat) (t : TypeId) (r : Value), f.resultTypes[j]? = some t → (v.resultList f.resultTypes.size)[j]? = some r → Value.okWide P W' .any 0 t r) :
    s.post enc P f apart fresh handsOn again W args v W' := by
  have hlt : ∀ p ∈ before, p.block < W.heap.size := fun p hp => hW.lt p hp
  have hold : ∀ p ∈ before, (fun b => decide (b < W.heap.size)) p.block = true := fun p hp => by simpa using hlt p hp
  refine ⟨ds, gs, before, [], pa, pv, hW, hres _ _ _, hargs _ hold, hvars _ hold, World.keptBut_mono (fun p hp => ⟨hp, ?_⟩) (hb.frame (· ∈ before)), fun _ => ?_⟩
  · rw [hps, List.mem_append] at hp
    exact Or.inr hp
  · obtain ⟨_, _, _, _, _, hz, hn⟩ := hW
    refine ⟨hok, _, _, ([] ++ pa) ++ pv, ⟨[] ++ pa, pv, trodAll_append (hargs _ (fun _ _ => rfl)) (hres _ _ _), hvars _ (fun _ _ => rfl), rfl, ?_, ?_⟩, ?_⟩
    · intro b off hp
      have hin : MemPlace.cell b off ∈ before := by rw [hps]; simpa using hp
      rw [hb.frozen (hlt _ hin)]
      exact hz b off hin
    · intro ha
      have := hn ha
      rw [hps] at this
      simpa using this
    · intro p hp _
      rw [hps]
      simpa using hp
end

/-! ### own lemmas -/
theorem bcell {W w1 : World} (hb : Below W.heap.size W w1) : (∀ b o, b < W.heap.size → w1.cell? ⟨b, o, none⟩ = W.cell? ⟨b, o, none⟩) ∧ (∀ b o, b < W.heap.size → w1.frozen? ⟨b, o, none⟩ = W.frozen? ⟨b, o, none⟩) :=
  ⟨fun b o h => hb.cell (p := ⟨b, o, none⟩) h, fun b o h => hb.frozen (p := ⟨b, o, none⟩) h⟩
theorem ret_bool {a b : Bool} (h : a = b) : Ending.returned (.bool a) = .returned (.bool b) := by rw [h]
theorem ret_int {k : IntKind} {a b : Int} (h : a = b) : Ending.returned (.int k a) = .returned (.int k b) := by rw [h]
theorem still_tail {P : Program} {id : Nat} {Q : Exit → Act → World → Prop} {a : Act} {w : World} {l : List Oper} (n : Nat) (hm : P.follows .mixedOrders = true) (hB : Region.lexTailB .any l.toArray n = true)
    (h : wpStill P l.toArray w.drew (fun a' => wpList P l.toArray Q (l.drop n) a' w.drew) (l.take n) a) : (Code.region id l.toArray true).wp P Q a w :=
  wp_region_still_tail n hm hB h
/-- A region that draws its order, in a family of worlds: every operation yields one value in every world of the family. -/
theorem region_fam {P : Program} {id : Nat} {Q : Exit → Act → World → Prop} {a : Act} {w : World} {l : List Oper} (hm : P.follows .mixedOrders = true) (hB : Region.lexB .any l.toArray = true)
    (h : ∀ (ι : Type) (_ : Nonempty ι) (f : ι → World), (∀ n, Below w.heap.size w (f n)) → (∀ n w'', Below (f n).heap.size (f n) w'' → ∃ m, w'' = f m) →
      wpQuiet P l.toArray (fun w' => ∃ n, w' = f n) (fun a' => ∀ n, Q .normal a' (f n)) l a) : (Code.region id l.toArray true).wp P Q a w := by
  have h1 := h {w' : World // Below w.heap.size w w'} ⟨⟨w, Below.refl _ _⟩⟩ (·.1) (fun n => n.2) (fun n w'' hb => ⟨⟨w'', n.2.trans (hb.mono n.2.size)⟩, rfl⟩)
  refine wp_region_quiet (C := fun w' => ∃ n : {w' : World // Below w.heap.size w w'}, w' = n.1) hm hB ⟨⟨_, (Below.refl _ _).drew⟩, rfl⟩ ?_
  have e : (fun a' => ∀ w', (∃ n : {w' : World // Below w.heap.size w w'}, w' = n.1) → Q .normal a' w') = (fun a' => ∀ n : {w' : World // Below w.heap.size w w'}, Q .normal a' n.1) := by
    funext a'
    exact propext ⟨fun h n => h _ ⟨n, rfl⟩, fun h w' ⟨n, hn⟩ => hn ▸ h n⟩
  rw [e]
  simpa using h1

theorem cell_spot {w : World} {a : Addr} {u : Value} (h : w.cell? a = some u) : a = ⟨a.block, a.off, none⟩ := by
  rcases a with ⟨b, o, s⟩
  cases s with
  | none => rfl
  | some s =>
    simp only [World.cell?] at h
    split at h <;> simp_all
theorem Reads.lit {w : World} {B size n : Nat} {A : Option Addr} {xs : List Value} (h : Reads w B size A n xs) (hx : 0 < xs.length) :
    ∃ b o, A = some ⟨b, o, none⟩ ∧ b < B ∧ ∀ j u, xs[j]? = some u → w.cell? ⟨b, o + j, none⟩ = some u := by
  have hn : 0 < n := by
    rcases Nat.eq_zero_or_pos n with h0 | h0
    · have h1 := h.1; rw [h0, Nat.zero_mul] at h1; omega
    · exact h0
  obtain ⟨ad, e, hb, hc⟩ := h.2 hn
  have h0 := hc 0 _ (List.getElem?_eq_getElem hx)
  rw [Addr.add_zero'] at h0
  have hs := cell_spot h0
  refine ⟨ad.block, ad.off, by rw [e, ← hs], hb, fun j u hu => ?_⟩
  have := hc j u hu
  rwa [hs, Addr.add_lit] at this
theorem flat_len {α β : Type} (f : α → List β) (s : Nat) (hf : ∀ x, (f x).length = s) (l : List α) : (l.flatMap f).length = l.length * s := by
  induction l with
  | nil => simp
  | cons x l ih => simp [ih, hf, Nat.succ_mul]; omega
theorem flat_get {α β : Type} (f : α → List β) (s : Nat) (hf : ∀ x, (f x).length = s) : ∀ (l : List α) (k j : Nat) (hk : k < l.length), j < s → (l.flatMap f)[k * s + j]? = (f l[k])[j]?
  | x :: l, 0, j, _, hj => by
    simp only [List.flatMap_cons, Nat.zero_mul, Nat.zero_add, List.getElem_cons_zero]
    rw [List.getElem?_append_left (by rw [hf]; exact hj)]
  | x :: l, k + 1, j, hk, hj => by
    simp only [List.flatMap_cons, List.getElem_cons_succ]
    rw [List.getElem?_append_right (by rw [hf, Nat.succ_mul]; omega), hf, show (k + 1) * s + j - s = k * s + j by rw [Nat.succ_mul]; omega]
    exact flat_get f s hf l k j (by simpa using hk) hj
/-- The cells of element k of a slice whose elements have s cells each. -/
theorem Reads.elem {α : Type} {w : World} {B s : Nat} {A : Option Addr} {f : α → List Value} {l : List α} (hf : ∀ x, (f x).length = s) (h : Reads w B s A l.length (l.flatMap f)) {k : Nat} (hk : k < l.length) (hs : 0 < s) :
    ∃ b o, A = some ⟨b, o, none⟩ ∧ b < B ∧ ∀ j u, j < s → (f l[k])[j]? = some u → w.cell? ⟨b, o + k * s + j, none⟩ = some u := by
  have hx : 0 < (l.flatMap f).length := by rw [flat_len f s hf]; exact Nat.mul_pos (by omega) hs
  obtain ⟨b, o, hA, hb, hc⟩ := h.lit hx
  refine ⟨b, o, hA, hb, fun j u hj hu => ?_⟩
  rw [Nat.add_assoc]
  exact hc _ u (by rw [flat_get f s hf l k j hk hj]; exact hu)
theorem blk_set3 {w : World} {g : Nat} {t : TypeId} {x0 x1 x2 : Value} (h : Blk w g t #[x0, x1, x2]) (v0 v1 v2 : Value) :
    Blk (((w.setCell ⟨g, 0, none⟩ v0).setCell ⟨g, 1, none⟩ v1).setCell ⟨g, 2, none⟩ v2) g t #[v0, v1, v2] := by
  have := ((h.set_ 0 v0).set_ 1 v1).set_ 2 v2
  simpa using this
theorem below_set3 {B : Nat} {a w : World} (h : Below B a w) {g : Nat} (hg : B ≤ g) (v0 v1 v2 : Value) :
    Below B a (((w.setCell ⟨g, 0, none⟩ v0).setCell ⟨g, 1, none⟩ v1).setCell ⟨g, 2, none⟩ v2) :=
  ((h.setCell (p := ⟨g, 0, none⟩) hg v0).setCell (p := ⟨g, 1, none⟩) hg v1).setCell (p := ⟨g, 2, none⟩) hg v2
theorem blk_set2 {w : World} {g : Nat} {t : TypeId} {x0 x1 : Value} (h : Blk w g t #[x0, x1]) (v0 v1 : Value) :
    Blk ((w.setCell ⟨g, 0, none⟩ v0).setCell ⟨g, 1, none⟩ v1) g t #[v0, v1] := by
  have := (h.set_ 0 v0).set_ 1 v1
  simpa using this
theorem below_set2 {B : Nat} {a w : World} (h : Below B a w) {g : Nat} (hg : B ≤ g) (v0 v1 : Value) :
    Below B a ((w.setCell ⟨g, 0, none⟩ v0).setCell ⟨g, 1, none⟩ v1) :=
  (h.setCell (p := ⟨g, 0, none⟩) hg v0).setCell (p := ⟨g, 1, none⟩) hg v1
theorem take_snoc' {α : Type} (l : List α) (k : Nat) (h : k < l.length) : l.take (k + 1) = l.take k ++ [l[k]] := List.take_succ_eq_append_getElem h
theorem size_setCell (w : World) (a : Addr) (u : Value) : (w.setCell a u).heap.size = w.heap.size := by simp [World.setCell]
theorem below_set3_alloc {B : Nat} {a w : World} (h : Below B a w) {g : Nat} (hg : B ≤ g) (hB : B ≤ w.heap.size) (v0 v1 v2 : Value) (o : Obj) :
    Below B a ((((w.setCell ⟨g, 0, none⟩ v0).setCell ⟨g, 1, none⟩ v1).setCell ⟨g, 2, none⟩ v2).alloc o) :=
  (below_set3 h hg v0 v1 v2).alloc (by rw [size_setCell, size_setCell, size_setCell]; exact hB) o
theorem idxOf_eq_of_not_take {α : Type} [DecidableEq α] (l : List α) (m : Nat) (h : m < l.length) (hn : l[m] ∉ l.take m) : l.idxOf l[m] = m := by
  have h1 : l = l.take m ++ l[m] :: l.drop (m + 1) := by rw [← List.drop_eq_getElem_cons h, List.take_append_drop]
  have h2 : (l.take m ++ l[m] :: l.drop (m + 1)).idxOf l[m] = m := by
    rw [List.idxOf_append, if_neg hn, List.idxOf_cons_self]
    simp; omega
  rw [← h1] at h2
  exact h2
theorem own_form {w : World} {base : Nat} {e : TypeId} {size n : Nat} {v : Value} {xs : List Value} (h : w.ownsRow base e size v n xs) : ∃ A c, v = .slice A n c ∧ n ≤ c ∧ c ≤ maxLen := by
  rcases h.2 with ⟨rfl, rfl⟩ | ⟨g, cap, cur, rfl, _, _, h1, h2, _⟩
  · exact ⟨none, 0, rfl, Nat.le_refl _, Nat.zero_le _⟩
  · exact ⟨_, _, rfl, h1, h2⟩
theorem calls_left {P : Program} {f : FuncId} {args : Array Value} {w : World} {v : Value} (h : Calls P f args w fun e w' => e = .returned v ∧ w = w') : Calls P f args w fun e w' => e = .returned v ∧ w' = w :=
  h.mono fun _ _ hh => ⟨hh.1, hh.2.symm⟩
theorem Reads.of_blk {w : World} {g : Nat} {t : TypeId} {cs : Array Value} {size n : Nat} {xs : List Value} (h : Blk w g t cs) (hx : cs.toList = xs) (hl : xs.length = n * size) : Reads w w.heap.size size (some ⟨g, 0, none⟩) n xs := by
  refine ⟨hl, fun _ => ⟨_, rfl, h.lt, fun j u hu => ?_⟩⟩
  rw [Addr.add_lit, Nat.zero_add, h.cell, ← hu, ← hx]
  simp

/-! ### A region that draws its order, cut into segments: in a quiet segment every order comes to the same values; a segment in one forced order is walked as it stands. -/
namespace Seg
section
variable {P : Program} {ops : Array Oper}

def pre (n k : Nat) : List Bool := (List.range n).map fun i => decide (i < k)
theorem pre_len (n k : Nat) : (pre n k).length = n := by simp [pre]
theorem pre_get (n k j : Nat) (d : Bool) : (pre n k).toArray.getD j d = if j < n then decide (j < k) else d := by
  by_cases h : j < n <;> simp [pre, h]
theorem pre_set (n k : Nat) : (pre n k).toArray.setIfInBounds k true = (pre n (k + 1)).toArray := by
  apply Array.ext'
  simp only [Array.toList_setIfInBounds]
  apply List.ext_getElem?
  intro j
  simp only [pre, List.getElem?_set, List.length_map, List.length_range, List.getElem?_map]
  by_cases h1 : k = j
  · subst h1
    by_cases h2 : k < n <;> simp [h2]
  · by_cases h2 : j < n <;> simp [h1, h2] <;> omega
theorem pre_count (n k : Nat) (h : k ≤ n) : (pre n k).count false = n - k := by
  induction n with
  | zero => simp [pre]
  | succ n ih =>
    unfold pre at *
    rw [List.range_succ, List.map_append, List.count_append]
    by_cases hk : k ≤ n
    · rw [ih hk]; simp [show ¬ n < k by omega]; omega
    · have : k = n + 1 := by omega
      subst this
      have e : (List.map (fun i => decide (i < n + 1)) (List.range n)).count false = 0 := by
        rw [List.count_eq_zero]
        simp only [List.mem_map, List.mem_range, decide_eq_false_iff_not, not_exists, not_and]
        intro x hx hc; omega
      rw [e]; simp

/-- Edges and guards lead back. -/
def backB (ops : Array Oper) : Bool := (List.range ops.size).all fun i => match ops[i]? with
  | some o => (o.after.all fun e => !Region.binds .any e || decide (e.on < i)) && (match o.guard with | some (g, _) => decide (g < i) | none => true)
  | none => true
theorem back_edge (h : backB ops = true) {i : Nat} {o : Oper} (ho : ops[i]? = some o) : ∀ e ∈ o.after, Region.binds .any e = true → e.on < i := by
  have h1 := List.all_eq_true.1 h i (List.mem_range.2 (Array.getElem?_eq_some_iff.1 ho).1)
  simp only [ho, Bool.and_eq_true] at h1
  intro e he hb
  have h2 := Array.all_eq_true_iff_forall_mem.1 h1.1 e he
  simpa [hb] using h2
theorem back_guard (h : backB ops = true) {i : Nat} {o : Oper} (ho : ops[i]? = some o) {g : Nat} {b : Bool} (hg : o.guard = some (g, b)) : g < i := by
  have h1 := List.all_eq_true.1 h i (List.mem_range.2 (Array.getElem?_eq_some_iff.1 ho).1)
  simp only [ho, Bool.and_eq_true, hg] at h1
  simpa using h1.2

def Closed (ops : Array Oper) (listed : Array Bool) : Prop := ∀ j o, ops[j]? = some o → listed.getD j false = true → ∀ e ∈ o.after, Region.binds .any e = true → listed.getD e.on false = true
theorem Closed.set {i : Nat} {listed : Array Bool} (h : Closed ops listed) (hi : i ∈ Region.ready .any ops listed) : Closed ops (listed.setIfInBounds i true) := by
  obtain ⟨_, oi, hoi, hall⟩ := mem_ready.1 hi
  intro j o hj hl e he hb
  by_cases hij : i = j
  · subst hij
    have : o = oi := Option.some.inj (hj.symm.trans hoi)
    subst this
    exact getD_set_true (hall e he hb)
  · rw [getD_set_ne false hij] at hl
    exact getD_set_true (h j o hj hl e he hb)
theorem closed_pre (hb : backB ops = true) (k : Nat) : Closed ops (pre ops.size k).toArray := by
  intro j o hj hl e he hbd
  have := back_edge hb hj e he hbd
  have hjs := (Array.getElem?_eq_some_iff.1 hj).1
  rw [pre_get] at hl ⊢
  rw [if_pos hjs] at hl
  rw [if_pos (by omega)]
  simp at hl ⊢
  omega

def waitsB (ops : Array Oper) (j i : Nat) : Bool := match ops[j]? with
  | some o => o.after.any fun e => Region.binds .any e && e.on == i
  | none => false
theorem waits_spec {j i : Nat} (h : waitsB ops j i = true) : ∃ o, ops[j]? = some o ∧ ∃ e ∈ o.after, Region.binds .any e = true ∧ e.on = i := by
  unfold waitsB at h
  split at h
  · rename_i o ho
    obtain ⟨e, he, hb⟩ := Array.any_eq_true'.1 h
    simp only [Bool.and_eq_true, beq_iff_eq] at hb
    exact ⟨o, ho, e, he, hb.1, hb.2⟩
  · cases h
/-- m is a boundary: all ahead of it lead to it, all behind it come from it. -/
def boundB (ops : Array Oper) (m : Nat) : Bool :=
  m == ops.size || ((List.range m).all fun i => (List.range (m + 1)).any fun j => decide (i < j) && waitsB ops j i) &&
    (List.range ops.size).all fun t => decide (t ≤ m) || (List.range t).any fun s => decide (m ≤ s) && waitsB ops t s
theorem down_listed {m : Nat} (hd : ∀ t, m < t → t < ops.size → ∃ s, m ≤ s ∧ s < t ∧ waitsB ops t s = true) {listed : Array Bool} (hc : Closed ops listed) :
    ∀ t, m ≤ t → t < ops.size → listed.getD t false = true → listed.getD m false = true := by
  intro t
  induction t using Nat.strongRecOn with
  | _ t ih =>
    intro h1 h2 h3
    by_cases he : t = m
    · rw [← he]; exact h3
    · obtain ⟨s, hs1, hs2, hw⟩ := hd t (by omega) h2
      obtain ⟨o, ho, e, he, hb, rfl⟩ := waits_spec hw
      exact ih _ hs2 hs1 (by omega) (hc t o ho h3 e he hb)
theorem bound_stop {m : Nat} (h : boundB ops m = true) {listed : Array Bool} (hc : Closed ops listed) {i : Nat} (him : i < m) (hi : listed.getD i false = false) :
    ∀ t ∈ Region.ready .any ops listed, t < m := by
  intro t ht
  obtain ⟨_, ot, hot, hall⟩ := mem_ready.1 ht
  have hts := (Array.getElem?_eq_some_iff.1 hot).1
  refine Classical.byContradiction fun hge => ?_
  simp only [boundB, Bool.or_eq_true, beq_iff_eq, Bool.and_eq_true] at h
  rcases h with h | ⟨hu, hd⟩
  · omega
  have hu' : ∀ i, i < m → ∃ j, i < j ∧ j ≤ m ∧ waitsB ops j i = true := fun i hi => by
    obtain ⟨j, hj, hj2⟩ := List.any_eq_true.1 (List.all_eq_true.1 hu i (List.mem_range.2 hi))
    simp only [Bool.and_eq_true, decide_eq_true_eq] at hj2
    exact ⟨j, hj2.1, by have := List.mem_range.1 hj; omega, hj2.2⟩
  have hd' : ∀ t, m < t → t < ops.size → ∃ s, m ≤ s ∧ s < t ∧ waitsB ops t s = true := fun t h1 h2 => by
    have h3 := List.all_eq_true.1 hd t (List.mem_range.2 h2)
    simp only [Bool.or_eq_true, decide_eq_true_eq] at h3
    rcases h3 with h3 | h3
    · omega
    · obtain ⟨s, hs, hs2⟩ := List.any_eq_true.1 h3
      simp only [Bool.and_eq_true, decide_eq_true_eq] at hs2
      exact ⟨s, hs2.1, List.mem_range.1 hs, hs2.2⟩
  -- all direct predecessors of m are listed
  have hm : ∀ o, ops[m]? = some o → ∀ e ∈ o.after, Region.binds .any e = true → listed.getD e.on false = true := by
    intro o ho e he hb
    by_cases htm : t = m
    · subst htm
      have : o = ot := Option.some.inj (ho.symm.trans hot)
      subst this
      exact hall e he hb
    · obtain ⟨s, hs1, hs2, hw⟩ := hd' t (by omega) hts
      obtain ⟨o', ho', e', he', hb', rfl⟩ := waits_spec hw
      have : o' = ot := Option.some.inj (ho'.symm.trans hot)
      subst this
      have hl := down_listed hd' hc _ hs1 (by omega) (hall e' he' hb')
      exact hc m o ho hl e he hb
  have key : ∀ d i, m - i = d → i < m → listed.getD i false = true := by
    intro d
    induction d using Nat.strongRecOn with
    | _ d ih =>
      intro i hd hi
      obtain ⟨j, hj1, hj2, hw⟩ := hu' i hi
      obtain ⟨o, ho, e, he, hb, hon⟩ := waits_spec hw
      by_cases hjm : j = m
      · subst hjm; rw [← hon]; exact hm o ho e he hb
      · rw [← hon]; exact hc j o ho (ih (m - j) (by omega) j rfl (by omega)) e he hb
  rw [key _ i rfl him] at hi
  cases hi

theorem take_get {m i : Nat} (h : i < m) : (ops.take m)[i]? = ops[i]? := by
  rw [show ops.take m = ops.extract 0 m by simp, Array.getElem?_extract]
  by_cases hi : i < ops.size
  · rw [if_pos (by omega), Nat.zero_add]
  · rw [if_neg (by omega), Array.getElem?_eq_none (by omega)]
theorem yielded_take {m g : Nat} (h : g < m) (tmps : Array Value) : yielded (ops.take m) tmps g = yielded ops tmps g := by
  unfold yielded; rw [take_get h]
theorem wanted_take (hb : backB ops = true) {m i : Nat} {o : Oper} (ho : ops[i]? = some o) (h : i < m) (tmps : Array Value) :
    Region.wanted o (yielded (ops.take m) tmps) = Region.wanted o (yielded ops tmps) := by
  unfold Region.wanted
  cases hg : o.guard with
  | none => rfl
  | some gw =>
    obtain ⟨g, want⟩ := gw
    simp only [yielded_take (show g < m by have := back_guard hb ho hg; omega)]
theorem wpOp_take (hb : backB ops = true) {m i : Nat} (h : i < m) {Q : Exit → Act → World → Prop} {K : Act → World → Prop} {a : Act} {w : World} (hh : wpOp P (ops.take m) Q i K a w) : wpOp P ops Q i K a w := by
  unfold wpOp at *
  rw [take_get h] at hh
  cases ho : ops[i]? with
  | none => simpa [ho] using hh
  | some o =>
    simp only [ho] at hh ⊢
    rwa [wanted_take hb ho h] at hh
theorem wpQuiet_take (hb : backB ops = true) {C : World → Prop} {Q : Act → Prop} {m : Nat} : ∀ (l : List Oper) (k : Nat) (a : Act), (∀ j o, l[j]? = some o → ops[k + j]? = some o ∧ k + j < m) → wpQuiet P ops C Q l a → wpQuiet P (ops.take m) C Q l a
  | [], _, _, _, h => h
  | o :: l, k, a, hl, h => by
    have h0 := hl 0 o rfl
    rw [Nat.add_zero] at h0
    have ih : ∀ a, wpQuiet P ops C Q l a → wpQuiet P (ops.take m) C Q l a := fun a => wpQuiet_take hb l (k + 1) a (fun j o' hj => by
      have := hl (j + 1) o' (by simpa using hj)
      rwa [show k + (j + 1) = k + 1 + j by omega] at this)
    unfold wpQuiet at h ⊢
    rw [wanted_take hb h0.1 h0.2]
    split
    · rename_i hw; rw [if_pos hw] at h; exact Oper.quiet_mono ih h
    · rename_i hw; rw [if_neg hw] at h; exact ih _ h

/-- A quiet segment, in whatever order. -/
theorem phase (hb : backB ops = true) {m : Nat} (hm : m ≤ ops.size) (hbd : boundB ops m = true) {C : World → Prop} {Q' : Act → Prop} {Q : Exit → Act → World → Prop} {F : Nat}
    (hQ : ∀ a w, C w → Q' a → wpAny P .any ops Q F (pre ops.size m).toArray a w) :
    ∀ (fuel : Nat) (L : List Bool) (a : Act) (w : World), L.length = m → L.count false = fuel → Closed ops (L ++ List.replicate (ops.size - m) false).toArray → C w →
      wpAnyQ P .any (ops.take m) C Q' fuel L.toArray a → wpAny P .any ops Q (fuel + F) (L ++ List.replicate (ops.size - m) false).toArray a w := by
  intro fuel
  induction fuel with
  | zero =>
    intro L a w hL hct _ hC h
    have hall : ∀ x ∈ L, x = true := fun x hx => by
      rw [List.count_eq_zero] at hct
      cases x
      · exact absurd hx hct
      · rfl
    have e : (L ++ List.replicate (ops.size - m) false) = pre ops.size m := by
      apply List.ext_getElem?
      intro j
      rcases Nat.lt_or_ge j m with hj | hj
      · rw [List.getElem?_append_left (by omega), List.getElem?_eq_getElem (by omega), hall _ (List.getElem_mem _)]
        simp [pre, show j < ops.size by omega, hj]
      · rw [List.getElem?_append_right (by omega), List.getElem?_replicate]
        simp only [pre, List.getElem?_map]
        by_cases hj2 : j < ops.size
        · rw [if_pos (by omega), List.getElem?_range hj2]; simp; omega
        · rw [if_neg (by omega), List.getElem?_eq_none (by simpa using hj2)]; rfl
    rw [e, Nat.zero_add]
    exact hQ a w hC h.2
  | succ fuel ih =>
    intro L a w hL hct hcl hC h
    obtain ⟨i0, hi0, hi1, hi2⟩ : ∃ i, i < m ∧ (L ++ List.replicate (ops.size - m) false).toArray.getD i false = false ∧ ∀ j, j < i → (L ++ List.replicate (ops.size - m) false).toArray.getD j false = true := by
      have hex : ∃ i, i < m ∧ (L ++ List.replicate (ops.size - m) false).toArray.getD i false = false := by
        have hmem : false ∈ L := List.count_pos_iff.1 (by omega)
        obtain ⟨i, hi, he⟩ := List.mem_iff_getElem.1 hmem
        exact ⟨i, by omega, by simp [List.getElem?_append_left hi, hi, he]⟩
      obtain ⟨i, hi⟩ := hex
      have hleast : ∀ n, (∃ i, i < n ∧ i < m ∧ (L ++ List.replicate (ops.size - m) false).toArray.getD i false = false) → ∃ i, i < m ∧ (L ++ List.replicate (ops.size - m) false).toArray.getD i false = false ∧ ∀ j, j < i → (L ++ List.replicate (ops.size - m) false).toArray.getD j false = true := by
        intro n
        induction n with
        | zero => rintro ⟨i, h, _⟩; omega
        | succ n ihn =>
          rintro ⟨i, h1, h2, h3⟩
          by_cases hs : ∃ i, i < n ∧ i < m ∧ (L ++ List.replicate (ops.size - m) false).toArray.getD i false = false
          · exact ihn hs
          · refine ⟨i, h2, h3, fun j hj => ?_⟩
            cases hv : (L ++ List.replicate (ops.size - m) false).toArray.getD j false with
            | true => rfl
            | false => exact absurd ⟨j, by omega, by omega, hv⟩ hs
      exact hleast (i + 1) ⟨i, by omega, hi.1, hi.2⟩
    have hsz : (L ++ List.replicate (ops.size - m) false).toArray.size = ops.size := by simp; omega
    have hready0 : i0 ∈ Region.ready .any ops (L ++ List.replicate (ops.size - m) false).toArray := by
      have ho : ops[i0]? = some ops[i0] := Array.getElem?_eq_getElem (by omega)
      refine mem_ready.2 ⟨?_, _, ho, fun e he hbe => hi2 _ (back_edge hb ho e he hbe)⟩
      have : i0 < (L ++ List.replicate (ops.size - m) false).toArray.size := by omega
      simp only [Array.getD_eq_getD_getElem?, Array.getElem?_eq_getElem this, Option.getD_some] at hi1 ⊢
      exact hi1
    rw [show fuel + 1 + F = (fuel + F) + 1 by omega]
    refine ⟨fun h0 => (by rw [h0] at hready0; cases hready0), fun i hi => ?_⟩
    have him := bound_stop hbd hcl hi0 hi1 i hi
    obtain ⟨hun, oi, hoi, hall⟩ := mem_ready.1 hi
    have hiL : i < L.length := by omega
    have hLi : L[i] = false := by
      simp only [Array.getD_eq_getD_getElem?, List.getElem?_toArray, List.getElem?_append_left hiL, List.getElem?_eq_getElem hiL, Option.getD_some] at hun
      exact hun
    have hi' : i ∈ Region.ready .any (ops.take m) L.toArray := by
      refine mem_ready.2 ⟨by simp [hLi, hiL], oi, by rw [take_get him]; exact hoi, fun e he hbe => ?_⟩
      have h1 := hall e he hbe
      have h2 := back_edge hb hoi e he hbe
      have h3 : e.on < L.length := by omega
      simp only [Array.getD_eq_getD_getElem?, List.getElem?_toArray, List.getElem?_append_left h3] at h1 ⊢
      exact h1
    have h1 := h.2 i hi'
    have hset : (L ++ List.replicate (ops.size - m) false).toArray.setIfInBounds i true = (L.set i true ++ List.replicate (ops.size - m) false).toArray := by
      simp [List.set_append_left _ _ hiL]
    rw [hset]
    refine wpOp_take hb him (wpOp_of_qOp hC (fun a' w' hC' hK => ?_) h1)
    refine ih (L.set i true) a' w' (by simpa using hL) ?_ (by rw [← hset]; exact hcl.set hi) hC' (by simpa using hK)
    rw [List.count_set hiL, hLi, hct]; simp

def thenK (Q : Exit → Act → World → Prop) (K : Act → World → Prop) : Exit → Act → World → Prop
  | .normal, a, w => K a w
  | e, a, w => Q e a w
theorem Oper.wp_thenK {Q : Exit → Act → World → Prop} {K K' : Act → World → Prop} {o : Oper} {a : Act} {w : World} {N : Act → World → Prop} (hN : ∀ a w, N a w → K' a w) (h : o.wp P a w N (thenK Q K)) : o.wp P a w K' Q := by
  unfold Oper.wp at *
  generalize (execOp a.eval o).run P w = r at *
  cases r with
  | ok n w' =>
    cases n <;> simp only [Oper.upon] at h ⊢ <;>
      first
        | exact hN _ _ h
        | exact Calls.mono h (fun e w'' he => by cases e <;> first | exact hN _ _ he | exact he)
        | exact Rows.mono h (fun _ _ he => hN _ _ he)
  | halt x w' => cases x <;> simp only [Oper.upon] at h ⊢ <;> exact h

/-- A segment in one forced order. -/
theorem seq {Q : Exit → Act → World → Prop} {K : Act → World → Prop} {F : Nat} : ∀ (l : List Oper) (k : Nat) (a : Act) (w : World), (∀ j o, l[j]? = some o → ops[k + j]? = some o) →
    ((List.range l.length).all fun j => decide (Region.ready .any ops (pre ops.size (k + j)).toArray = [k + j])) = true → (∀ a w, K a w → wpAny P .any ops Q F (pre ops.size (k + l.length)).toArray a w) →
    wpList P ops (thenK Q K) l a w → wpAny P .any ops Q (l.length + F) (pre ops.size k).toArray a w
  | [], k, a, w, _, _, hK, h => by rw [List.length_nil, Nat.zero_add]; exact hK a w h
  | o :: l, k, a, w, hl, hr, hK, h => by
    have h0 : ops[k]? = some o := by simpa using hl 0 o rfl
    have hr0 := List.all_eq_true.1 hr 0 (by simp)
    simp only [Nat.add_zero, decide_eq_true_eq] at hr0
    have ih : ∀ a w, wpList P ops (thenK Q K) l a w → wpAny P .any ops Q (l.length + F) (pre ops.size (k + 1)).toArray a w := fun a w => seq l (k + 1) a w
      (fun j o' hj => by have := hl (j + 1) o' (by simpa using hj); rwa [show k + (j + 1) = k + 1 + j by omega] at this)
      (List.all_eq_true.2 fun j hj => by
        have := List.all_eq_true.1 hr (j + 1) (by simp at hj ⊢; omega)
        rwa [show k + (j + 1) = k + 1 + j by omega] at this)
      (fun a w hk => by rw [show k + 1 + l.length = k + (o :: l).length by simp; omega]; exact hK a w hk)
    rw [List.length_cons, show l.length + 1 + F = (l.length + F) + 1 by omega]
    refine ⟨fun h1 => (by rw [hr0] at h1; cases h1), fun i hi => ?_⟩
    rw [hr0] at hi
    have hik : i = k := by simpa using hi
    subst hik
    rw [pre_set]
    unfold wpOp
    simp only [h0]
    unfold wpList at h
    split
    · rename_i hw
      rw [if_pos hw] at h
      rcases h with h | ⟨h1, a0, w0, h2⟩
      · exact .inl (Oper.wp_thenK ih h)
      · exact .inr ⟨h1, a0, w0, h2⟩
    · rename_i hw
      rw [if_neg hw] at h
      exact ih _ _ h

/-- The walk of the text's order: (how many operations, is the segment quiet?). -/
def Walk (P : Program) (ops : Array Oper) (Q : Exit → Act → World → Prop) : List (Nat × Bool) → List Oper → Act → World → Prop
  | [], _, a, w => Q .normal a w
  | (n, false) :: ss, l, a, w => wpList P ops (thenK Q (Walk P ops Q ss (l.drop n))) (l.take n) a w
  | (n, true) :: ss, l, a, w => ∀ (ι : Type) (_ : Nonempty ι) (f : ι → World), (∀ i, Below w.heap.size w (f i)) → (∀ i w'', Below (f i).heap.size (f i) w'' → ∃ m, w'' = f m) →
      wpQuiet P ops (fun w' => ∃ i, w' = f i) (fun a' => ∀ i, Walk P ops Q ss (l.drop n) a' (f i)) (l.take n) a

def okB (ops : Array Oper) : Nat → List (Nat × Bool) → Bool
  | k, [] => k == ops.size
  | k, (n, false) :: ss => decide (k + n ≤ ops.size) && ((List.range n).all fun j => decide (Region.ready .any ops (pre ops.size (k + j)).toArray = [k + j])) && okB ops (k + n) ss
  | k, (n, true) :: ss => decide (k + n ≤ ops.size) && boundB ops (k + n) && Region.lexFrom .any (ops.take (k + n)) n k (pre (k + n) k).toArray && okB ops (k + n) ss

theorem sound (hs : Region.noSelect ops = true) (hb : backB ops = true) {Q : Exit → Act → World → Prop} : ∀ (ss : List (Nat × Bool)) (k : Nat) (l : List Oper) (a : Act) (w : World), l = ops.toList.drop k → okB ops k ss = true →
    Walk P ops Q ss l a w → wpAny P .any ops Q (ops.size - k) (pre ops.size k).toArray a w
  | [], k, l, a, w, _, hok, h => by
    have hk : k = ops.size := by simpa [okB] using hok
    subst hk
    rw [Nat.sub_self]
    refine ⟨?_, h⟩
    apply List.eq_nil_iff_forall_not_mem.2
    intro i hi
    obtain ⟨h1, o, ho, _⟩ := mem_ready.1 hi
    rw [pre_get, if_pos (Array.getElem?_eq_some_iff.1 ho).1] at h1
    have := (Array.getElem?_eq_some_iff.1 ho).1
    simp at h1
    omega
  | (n, false) :: ss, k, l, a, w, hl, hok, h => by
    simp only [okB, Bool.and_eq_true, decide_eq_true_eq] at hok
    obtain ⟨⟨hkn, hr⟩, hok'⟩ := hok
    have hlen : (l.take n).length = n := by rw [hl]; simp; omega
    have := seq (P := P) (Q := Q) (K := Walk P ops Q ss (l.drop n)) (F := ops.size - (k + n)) (l.take n) k a w
      (fun j o hj => by
        have hjn : j < n := by have := (List.getElem?_eq_some_iff.1 hj).1; omega
        rw [List.getElem?_take_of_lt hjn, hl, List.getElem?_drop] at hj
        simpa using hj)
      (by rw [hlen]; exact hr)
      (fun a w hw => by rw [hlen]; exact sound hs hb ss (k + n) (l.drop n) a w (by rw [hl, List.drop_drop]) hok' hw) h
    rw [hlen] at this
    rwa [show n + (ops.size - (k + n)) = ops.size - k by omega] at this
  | (n, true) :: ss, k, l, a, w, hl, hok, h => by
    simp only [okB, Bool.and_eq_true, decide_eq_true_eq] at hok
    obtain ⟨⟨⟨hkn, hbd⟩, hlex⟩, hok'⟩ := hok
    have hlen : (l.take n).length = n := by rw [hl]; simp; omega
    have h1 := h {w' : World // Below w.heap.size w w'} ⟨⟨w, Below.refl _ _⟩⟩ (·.1) (fun n => n.2) (fun n w'' hb => ⟨⟨w'', n.2.trans (hb.mono n.2.size)⟩, rfl⟩)
    have hget : ∀ j o, (l.take n)[j]? = some o → ops[k + j]? = some o ∧ k + j < k + n := fun j o hj => by
      have hjn : j < n := by have := (List.getElem?_eq_some_iff.1 hj).1; omega
      rw [List.getElem?_take_of_lt hjn, hl, List.getElem?_drop] at hj
      exact ⟨by simpa using hj, by omega⟩
    have h2 := wpQuiet_take hb (m := k + n) (l.take n) k a hget h1
    have hs' : Region.noSelect (ops.take (k + n)) = true := by
      apply Array.all_eq_true_iff_forall_mem.2
      intro o ho
      obtain ⟨i, hi, he⟩ := Array.mem_iff_getElem.1 ho
      have ho2 : ops[i]? = some o := by
        have h3 : (ops.take (k + n))[i]? = some o := by rw [Array.getElem?_eq_getElem hi, he]
        have h4 : i < k + n := by simp at hi; omega
        rwa [take_get h4] at h3
      exact Array.all_eq_true_iff_forall_mem.1 hs o (Array.mem_of_getElem? ho2)
    have h3 := wpAnyQ_lex (md := .any) hs' (l.take n) k (pre (k + n) k).toArray a (fun j => by
      by_cases hj : j < n
      · rw [take_get (by omega), List.getElem?_take_of_lt hj, hl, List.getElem?_drop]; simp
      · rw [List.getElem?_eq_none (by omega), Array.getElem?_eq_none (by simp; omega)]) (by rw [hlen]; exact hlex) h2
    rw [hlen] at h3
    have hpre : pre (k + n) k ++ List.replicate (ops.size - (k + n)) false = pre ops.size k := by
      apply List.ext_getElem?
      intro j
      rcases Nat.lt_or_ge j (k + n) with hj | hj
      · rw [List.getElem?_append_left (by rw [pre_len]; omega)]
        simp [pre, hj, show j < ops.size by omega]
      · rw [List.getElem?_append_right (by rw [pre_len]; omega), pre_len, List.getElem?_replicate]
        simp only [pre, List.getElem?_map]
        by_cases hj2 : j < ops.size
        · rw [if_pos (by omega), List.getElem?_range hj2]; simp; omega
        · rw [if_neg (by omega), List.getElem?_eq_none (by simpa using hj2)]; rfl
    have h4 := phase (P := P) (Q := Q) hb hkn hbd (F := ops.size - (k + n)) (C := fun w' => ∃ i : {w' : World // Below w.heap.size w w'}, w' = i.1)
      (fun a w ⟨i, hi⟩ hQ => by rw [hi]; exact sound hs hb ss (k + n) (l.drop n) a i.1 (by rw [hl, List.drop_drop]) hok' (hQ i))
      n (pre (k + n) k) a w (pre_len _ _) (by rw [pre_count _ _ (by omega)]; omega) (by rw [hpre]; exact closed_pre hb k) ⟨⟨w, Below.refl _ _⟩, rfl⟩ h3
    rw [hpre, show n + (ops.size - (k + n)) = ops.size - k by omega] at h4
    exact h4

/-- **A region that draws its order, by segments.** -/
theorem region {id : Nat} {Q : Exit → Act → World → Prop} {a : Act} {w : World} {l : List Oper} (ss : List (Nat × Bool)) (hm : P.follows .mixedOrders = true)
    (hB : (Region.noSelect l.toArray && backB l.toArray && okB l.toArray 0 ss) = true) (h : Walk P l.toArray Q ss l a w.drew) : (Code.region id l.toArray true).wp P Q a w := by
  simp only [Bool.and_eq_true] at hB
  refine wp_region_any hm ?_
  have := sound (P := P) (Q := Q) hB.1.1 hB.1.2 ss 0 l a w.drew (by simp) hB.2 h
  have e : (pre l.toArray.size 0).toArray = Array.replicate l.toArray.size false := by
    apply Array.ext'
    simp only [pre, Array.toList_replicate]
    exact List.eq_replicate_iff.2 ⟨by simp, by simp⟩
  rw [e, Nat.sub_zero] at this
  exact this
end
end Seg

end Go.Proofs.Ytfmflbcmigiciaa
