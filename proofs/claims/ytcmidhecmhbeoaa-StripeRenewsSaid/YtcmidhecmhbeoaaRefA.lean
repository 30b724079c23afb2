/- Chapter 14, the reference: a fragment renewed. What holds of the rows. -/
import Derived.Test.YtcmidhecmhbeoaaRenB
import Derived.Test.YtcmidhecmhbeoaaWalkP
import Derived.BigQuiet
namespace Go.Proofs.Ytcmidhecmhbeoaa
open Go.RowKit

/-- Where the reference's first loop over the fragment stands: b's row is the call's own, below B1; left's lies at B1 or behind. -/
structure RR (wa : World) (B0 B1 : Nat) (Ab : Option Addr) (n cb : Nat) (b lf : List Pl) (vl : Value) (wr : World) : Prop where
  below : Below B0 wa wr
  sz : B1 ≤ wr.heap.size
  len : b.length = n
  row : wr.ownsRow B0 37 2 (.slice Ab n cb) n (b.flatMap Pl.cs)
  lt : ∀ ad, Ab = some ad → ad.block < B1
  left : wr.ownsRow B1 37 2 vl lf.length (lf.flatMap Pl.cs)
theorem RR.later {wa : World} {B0 B1 n cb : Nat} {Ab : Option Addr} {b lf : List Pl} {vl : Value} {wr w' : World} (h : RR wa B0 B1 Ab n cb b lf vl wr) (h01 : B0 ≤ B1) (hb : Below wr.heap.size wr w') : RR wa B0 B1 Ab n cb b lf vl w' :=
  ⟨h.below.trans (hb.mono (Nat.le_trans h01 h.sz)), Nat.le_trans h.sz hb.size, h.len, own_below h.row hb, h.lt, own_below h.left hb⟩
theorem own_drewN {w : World} {base e size n : Nat} {v : Value} {xs : List Value} (h : w.ownsRow base e size v n xs) (k : Nat) : (w.drewN k).ownsRow base e size v n xs := h
theorem RR.drewN {wa : World} {B0 B1 n cb : Nat} {Ab : Option Addr} {b lf : List Pl} {vl : Value} {wr : World} (h : RR wa B0 B1 Ab n cb b lf vl wr) (k : Nat) : RR wa B0 B1 Ab n cb b lf vl (wr.drewN k) :=
  ⟨belowN h.below k, h.sz, h.len, own_drewN h.row k, h.lt, own_drewN h.left k⟩
theorem RR.store {wa : World} {B0 B1 n cb r q : Nat} {b lf : List Pl} {vl : Value} {wr : World} (h : RR wa B0 B1 (some ⟨r, 0, none⟩) n cb b lf vl wr) (fn fs : Int) : RR wa B0 B1 (some ⟨r, 0, none⟩) n cb (b.set q ⟨fn, fs⟩) lf vl ((wr.setCell ⟨r, q * 2, none⟩ (.int .i64 fn)).setCell ⟨r, q * 2 + 1, none⟩ (.int .u64 fs)) := by
  have hr := h.row.lt r rfl
  have hr1 := h.lt _ rfl
  have o2 := (h.row.stored (q * 2) (.int .i64 fn)).1
  have o3 := (o2.stored (q * 2 + 1) (.int .u64 fs)).1
  rw [flat_set] at o3
  refine ⟨(h.below.setCell (p := ⟨r, q * 2, none⟩) hr.1 _).setCell (p := ⟨r, q * 2 + 1, none⟩) hr.1 _, by simp only [size_setCell]; exact h.sz, by rw [List.length_set]; exact h.len, o3, h.lt, ?_⟩
  exact ownsRow_setCell_below (ownsRow_setCell_below h.left (a := ⟨r, q * 2, none⟩) hr1 _) (a := ⟨r, q * 2 + 1, none⟩) hr1 _
theorem RR.app {wa : World} {B0 B1 n cb : Nat} {Ab : Option Addr} {b lf : List Pl} {vl v' : Value} {w w8 : World} {x : Pl} (h : RR wa B0 B1 Ab n cb b lf vl w) (h01 : B0 ≤ B1) (o : Obj) (hown : w8.ownsRow B1 37 2 v' (lf.length + 1) (lf.flatMap Pl.cs ++ x.cs)) (hgr : (w.alloc o).grownBy w8 vl.ownBlock) :
    RR wa B0 B1 Ab n cb b (lf ++ [x]) v' w8 := by
  have hl := h.left.lt
  have hs := h.sz
  have ha : Below w.heap.size w (w.alloc o) := (Below.refl _ _).alloc (Nat.le_refl _) _
  have h1 := h.later h01 ha
  refine ⟨h1.below.grown hgr (by simp; omega) (fun k e => by have := hl k e; omega), ?_, h.len, h1.row.kept hgr ?_, h.lt, by rw [List.flatMap_append, List.flatMap_singleton, List.length_append]; exact hown⟩
  · have := ((Below.refl B1 (w.alloc o)).grown hgr (by simp; omega) (fun k e => (hl k e).1)).size
    simp at this
    omega
  · cases Ab with
    | none => exact .inl rfl
    | some ad =>
      refine .inr fun e => ?_
      simp only [Value.ownBlock] at e
      have h2 := (hl _ e.symm).1
      have h3 := h.lt ad rfl
      omega
/-- A row of the call's own, whose value is a slice of so many. -/
def RQ (B0 : Nat) (b : List Pl) (v : Value) (wr : World) : Prop := ∃ A n c, v = .slice A n c ∧ b.length = n ∧ n ≤ c ∧ c ≤ maxLen ∧ wr.ownsRow B0 37 2 (.slice A n c) n (b.flatMap Pl.cs)
theorem RQ.later {B0 : Nat} {b : List Pl} {v : Value} {w w' : World} (h : RQ B0 b v w) (hb : Below w.heap.size w w') : RQ B0 b v w' := by
  obtain ⟨A, n, c, h1, h2, h3, h4, h5⟩ := h
  exact ⟨A, n, c, h1, h2, h3, h4, own_below h5 hb⟩
theorem RQ.of {B0 n : Nat} {b : List Pl} {v : Value} {w : World} (hn : b.length = n) (h : w.ownsRow B0 37 2 v n (b.flatMap Pl.cs)) : RQ B0 b v w := by
  obtain ⟨A, c, rfl, h1, h2⟩ := own_form h
  exact ⟨A, n, c, rfl, hn, h1, h2, h⟩
def cutSp (H g n c m off : Nat) (b : List Pl) : List (Tmp × Rg.Spec) :=
  [(148, .blk H (fun g => .slice (some ⟨g, 0, none⟩) 0 0) 37 #[]), (149, .is (.slice (some ⟨g, 0, none⟩) n c)), (150, .is (.int .i64 m)), (151, .is (.slice (some ⟨g, 0, none⟩) m c)), (152, ownSpec id H (b.take m)),
    (153, .is (.slice (some ⟨g, 0, none⟩) n c)), (154, .is (.int .i64 m)), (155, .is (.int .i64 ((m : Int) + 1))), (156, .is (.slice (some ⟨g, off, none⟩) (n - (m + 1)) (c - (m + 1))))]
theorem node_at (l : List Pl) (n : Nat) (hn : l.length = n) (A : Option Addr) (cap : Nat) (x bt : Int) (v : Bool) (hv : nodeB l x bt = v) (w : World) (h : Reads w w.heap.size 2 A n (l.flatMap Pl.cs)) (hl : n ≤ 1000000) :
    Calls Try.prog 43 #[.slice A n cap, .int .i64 x, .int .i64 bt] w fun e w' => e = .returned (.bool v) ∧ w = w' := by
  subst hn hv
  exact node_any l A cap x bt _ w h hl
theorem nodeB_neg (l : List Pl) (x : Int) : nodeB l x (-1) = decide (x ∈ l.map (·.n)) := by
  unfold nodeB
  congr 1
  apply propext
  constructor
  · rintro ⟨k, hk, _, he⟩
    rw [List.getElem?_eq_getElem hk] at he
    simp only [Option.map_some, Option.some.injEq] at he
    exact List.mem_map.2 ⟨_, List.getElem_mem hk, he⟩
  · intro h
    obtain ⟨v, hv, he⟩ := List.mem_map.1 h
    obtain ⟨k, hk, hkv⟩ := List.mem_iff_getElem.1 hv
    exact ⟨k, hk, by omega, by rw [List.getElem?_eq_getElem hk, hkv]; simp [he]⟩
theorem repL_neg {l good : List Pl} {x : Pl} (h : idxP l x < 0) : repL l x good = none := repL_no fun y _ => by unfold swapL; rw [if_pos (.inl h)]
theorem swap_yes {l : List Pl} {x y : Pl} (h : ¬ idxP l x < 0) (hn : nodeB l y.n (idxP l x) = false) : swapL l x y = some (l.set (idxP l x).toNat y) := by
  unfold swapL; rw [if_neg]; rintro (h1 | h1)
  · exact h h1
  · rw [hn] at h1; cases h1
theorem swap_no {l : List Pl} {x y : Pl} (hn : nodeB l y.n (idxP l x) = true) : swapL l x y = none := by unfold swapL; rw [if_pos (.inr hn)]
end Go.Proofs.Ytcmidhecmhbeoaa
