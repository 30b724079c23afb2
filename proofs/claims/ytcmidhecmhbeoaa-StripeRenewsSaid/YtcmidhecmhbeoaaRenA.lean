/- Chapter 14, plain: a fragment renewed; rows beside a struct of the call's own. -/
import Derived.Test.YtcmidhecmhbeoaaRep
namespace Go.Proofs.Ytcmidhecmhbeoaa
open Go.RowKit

def ph1 (bad good : List Pl) (st : List Pl × List Pl × Bool) (x : Pl) : List Pl × List Pl × Bool :=
  if x ∈ bad then (match repL st.1 x good with | some b => (b, st.2.1, true) | none => (st.1, st.2.1 ++ [x], st.2.2)) else st
def ph2 (W : Int) (st : List Pl × Bool) (x : Pl) : List Pl × Bool :=
  if W < st.1.length ∧ x ∈ st.1 then (st.1.take (st.1.idxOf x) ++ st.1.drop (st.1.idxOf x + 1), true) else st
def ph3 (e : Int) (b : List Pl) (x : Pl) : List Pl := if (b.length : Int) < e ∧ b.length < 5 ∧ x.n ∉ b.map (·.n) then b ++ [x] else b
def st1 (l bad good : List Pl) (j : Nat) : List Pl × List Pl × Bool := (l.take j).foldl (ph1 bad good) (l, [], false)
def st2 (W : Int) (s : List Pl × List Pl × Bool) (j : Nat) : List Pl × Bool := (s.2.1.take j).foldl (ph2 W) (s.1, s.2.2)
def st3 (e : Int) (b good : List Pl) (j : Nat) : List Pl := (good.take j).foldl (ph3 e) b
def renP (l : List Pl) (W e : Int) (bad known : List Pl) : Option (List Pl) :=
  let good := keepL bad known
  let s := st1 l bad good l.length
  let t := st2 W s s.2.1.length
  if t.2 then some (st3 e t.1 good good.length) else none

theorem st1_zero (l bad good : List Pl) : st1 l bad good 0 = (l, [], false) := rfl
theorem st1_succ {l bad good : List Pl} {j : Nat} {x : Pl} (h : l[j]? = some x) : st1 l bad good (j + 1) = ph1 bad good (st1 l bad good j) x := by
  unfold st1; rw [take_snoc? h, List.foldl_append]; rfl
theorem st2_zero (W : Int) (s : List Pl × List Pl × Bool) : st2 W s 0 = (s.1, s.2.2) := rfl
theorem st2_succ {W : Int} {s : List Pl × List Pl × Bool} {j : Nat} {x : Pl} (h : s.2.1[j]? = some x) : st2 W s (j + 1) = ph2 W (st2 W s j) x := by
  unfold st2; rw [take_snoc? h, List.foldl_append]; rfl
theorem st3_zero (e : Int) (b good : List Pl) : st3 e b good 0 = b := rfl
theorem st3_succ {e : Int} {b good : List Pl} {j : Nat} {x : Pl} (h : good[j]? = some x) : st3 e b good (j + 1) = ph3 e (st3 e b good j) x := by
  unfold st3; rw [take_snoc? h, List.foldl_append]; rfl

theorem swapL_len {l r : List Pl} {a b : Pl} (h : swapL l a b = some r) : r.length = l.length := by
  unfold swapL at h
  split at h
  · cases h
  · injection h with h; rw [← h]; simp
theorem repL_len {l r known : List Pl} {a : Pl} (h : repL l a known = some r) : r.length = l.length := by
  unfold repL at h
  obtain ⟨y, _, hy⟩ := List.exists_of_findSome?_eq_some h
  exact swapL_len hy
theorem st1_len (l bad good : List Pl) (j : Nat) (hj : j ≤ l.length) : (st1 l bad good j).1.length = l.length ∧ (st1 l bad good j).2.1.length ≤ j := by
  induction j with
  | zero => simp [st1_zero]
  | succ j ih =>
    obtain ⟨h1, h2⟩ := ih (by omega)
    rw [st1_succ (List.getElem?_eq_getElem (show j < l.length by omega))]
    unfold ph1
    split
    · split
      · rename_i b hb
        exact ⟨(repL_len hb).trans h1, Nat.le_succ_of_le h2⟩
      · exact ⟨h1, by simpa using h2⟩
    · exact ⟨h1, Nat.le_succ_of_le h2⟩
theorem st2_len (W : Int) (s : List Pl × List Pl × Bool) (j : Nat) : (st2 W s j).1.length ≤ s.1.length := by
  unfold st2
  generalize s.2.1.take j = xs
  have h : ∀ (xs : List Pl) (t : List Pl × Bool), (xs.foldl (ph2 W) t).1.length ≤ t.1.length := by
    intro xs
    induction xs with
    | nil => intro t; exact Nat.le_refl _
    | cons x xs ih =>
      intro t
      rw [List.foldl_cons]
      refine Nat.le_trans (ih _) ?_
      unfold ph2
      split
      · simp; omega
      · exact Nat.le_refl _
  exact h xs _
theorem st3_len (e : Int) (b good : List Pl) (j : Nat) : (st3 e b good j).length ≤ b.length + good.length := by
  have h : ∀ (xs b : List Pl), (xs.foldl (ph3 e) b).length ≤ b.length + xs.length := by
    intro xs
    induction xs with
    | nil => intro b; exact Nat.le_refl _
    | cons x xs ih =>
      intro b
      rw [List.foldl_cons]
      refine Nat.le_trans (ih _) ?_
      unfold ph3
      split <;> simp <;> omega
  unfold st3
  refine Nat.le_trans (h _ _) ?_
  have := List.length_take_le j good
  have h2 : (good.take j).length ≤ good.length := by rw [List.length_take]; omega
  omega

/-- A row beside block G: of what lay before it, or of the call's own behind it. -/
def RowG (w : World) (G : Nat) (A : Option Addr) (b : List Pl) (c : Nat) : Prop := PR w G A b ∨ w.ownsRow (G + 1) 37 2 (.slice A b.length c) b.length (b.flatMap Pl.cs)
theorem RowG.pr {w : World} {G : Nat} {A : Option Addr} {b : List Pl} {c : Nat} (h : RowG w G A b c) (hG : G ≤ w.heap.size) : PR w w.heap.size A b := by
  rcases h with h | h
  · exact h.more hG
  · exact Reads.of_own h
theorem RowG.below {w w' : World} {G : Nat} {A : Option Addr} {b : List Pl} {c : Nat} (h : RowG w G A b c) (hG : G ≤ w.heap.size) (hb : Below w.heap.size w w') : RowG w' G A b c := by
  rcases h with h | h
  · exact .inl (h.below (hb.mono hG))
  · exact .inr (own_below h hb)
theorem RowG.setG {w : World} {G : Nat} {A : Option Addr} {b : List Pl} {c : Nat} (h : RowG w G A b c) {p : Addr} (hp : p.block = G) (u : Value) : RowG (w.setCell p u) G A b c := by
  rcases h with h | h
  · exact .inl (h.setCell (by omega) u)
  · exact .inr (ownsRow_setCell_below h (by omega) u)
theorem RowG.grown {w w' : World} {G : Nat} {A : Option Addr} {b : List Pl} {c : Nat} {row : Option Nat} (h : RowG w G A b c) (hG : G ≤ w.heap.size) (hg : w.grownBy w' row) (hr : ∀ k, row = some k → G ≤ k ∧ ∀ ad, A = some ad → ad.block ≠ k) : RowG w' G A b c := by
  rcases h with h | h
  · exact .inl (h.grown hg hG (fun k e => (hr k e).1))
  · refine .inr (h.kept hg ?_)
    cases A with
    | none => exact .inl rfl
    | some ad =>
      refine .inr fun e => ?_
      simp only [Value.ownBlock] at e
      exact (hr _ e.symm).2 ad rfl rfl
theorem RowG.lt {w : World} {G : Nat} {A : Option Addr} {b : List Pl} {c : Nat} (h : RowG w G A b c) (hb : 0 < b.length) (hG : G ≤ w.heap.size) : ∀ ad, A = some ad → ad.block < w.heap.size := by
  intro ad he
  obtain ⟨ad', he', hl, _⟩ := (h.pr hG).2 hb
  rw [he] at he'
  injection he' with he'
  rw [he']; exact hl

theorem reads_set_ne {w : World} {B s n : Nat} {A : Option Addr} {xs : List Value} (h : Reads w B s A n xs) {p : Addr} (hne : ∀ ad, A = some ad → ad.block ≠ p.block) (u : Value) : Reads (w.setCell p u) B s A n xs := by
  refine ⟨h.1, fun hn => ?_⟩
  obtain ⟨ad, he, hb, hc⟩ := h.2 hn
  refine ⟨ad, he, hb, fun j v hv => ?_⟩
  rw [World.cell?_setCell_other w p (ad.add j) u (fun e => hne ad he (by have h1 := congrArg Addr.block e; rw [block_of_add] at h1; first | exact h1 | exact h1.symm))]
  exact hc j v hv
theorem own_ge {w : World} {base e size n c : Nat} {A : Option Addr} {xs : List Value} (h : w.ownsRow base e size (.slice A n c) n xs) : ∀ ad, A = some ad → base ≤ ad.block ∧ ad.block < w.heap.size := by
  intro ad he
  exact h.lt ad.block (by rw [he]; rfl)
theorem own_reads_lt {w : World} {base n c : Nat} {A : Option Addr} {xs : List Value} (h : w.ownsRow base 37 2 (.slice A n c) n xs) : Reads w w.heap.size 2 A n xs := Reads.of_own h

/-- Where the second and the third loop stand. -/
structure Ren2 (G B2 : Nat) (W1 : World) (first : Int) (b : List Pl) (wr : World) : Prop where
  below : Below G W1 wr
  sz : B2 ≤ wr.heap.size
  row : ∃ A c, Blk wr G 25 #[.int .u64 first, .slice A b.length c] ∧ wr.ownsRow B2 37 2 (.slice A b.length c) b.length (b.flatMap Pl.cs)
theorem Ren2.later {G B2 : Nat} {W1 : World} {first : Int} {b : List Pl} {wr w' : World} (h : Ren2 G B2 W1 first b wr) (hG : G < B2) (hb : Below wr.heap.size wr w') : Ren2 G B2 W1 first b w' := by
  obtain ⟨p1, p2, A, c, q1, q2⟩ := h
  have := hb.size
  exact ⟨p1.trans (hb.mono (by omega)), by omega, A, c, q1.below hb q1.lt, own_below q2 hb⟩
theorem Ren2.put {G B2 : Nat} {W1 : World} {first : Int} {b b' : List Pl} {wr : World} (h : Ren2 G B2 W1 first b wr) (hG : G < B2) {A : Option Addr} {n c : Nat} (hn : b'.length = n) (hown : wr.ownsRow B2 37 2 (.slice A n c) n (b'.flatMap Pl.cs)) : Ren2 G B2 W1 first b' (wr.setCell ⟨G, 1, none⟩ (.slice A n c)) := by
  subst hn
  obtain ⟨p1, p2, A0, c0, q1, q2⟩ := h
  refine ⟨p1.setCell (Nat.le_refl _) _, by rw [size_setCell]; exact p2, A, c, ?_, ownsRow_setCell_below hown hG _⟩
  have := q1.set_ 1 (.slice A b'.length c)
  simpa using this
theorem ph2_yes {W : Int} {st : List Pl × Bool} {x : Pl} (h1 : W < st.1.length) (h2 : x ∈ st.1) : ph2 W st x = (st.1.take (st.1.idxOf x) ++ st.1.drop (st.1.idxOf x + 1), true) := by unfold ph2; rw [if_pos ⟨h1, h2⟩]
theorem ph2_no {W : Int} {st : List Pl × Bool} {x : Pl} (h : ¬ (W < st.1.length ∧ x ∈ st.1)) : ph2 W st x = st := by unfold ph2; rw [if_neg h]
theorem ph3_yes {e : Int} {b : List Pl} {x : Pl} (h : (b.length : Int) < e ∧ b.length < 5 ∧ x.n ∉ b.map (·.n)) : ph3 e b x = b ++ [x] := by unfold ph3; rw [if_pos h]
theorem ph3_no {e : Int} {b : List Pl} {x : Pl} (h : ¬ ((b.length : Int) < e ∧ b.length < 5 ∧ x.n ∉ b.map (·.n))) : ph3 e b x = b := by unfold ph3; rw [if_neg h]
end Go.Proofs.Ytcmidhecmhbeoaa
