/- Chapter 05: a net in memory, told by its messages; what lies still; plain answers. -/
import Derived.Test.YtfmflbcmigiciaaWalkM
namespace Go.Proofs.Ytfmflbcmigiciaa
open Go.RowKit

structure Msg where
  f : Int
  t : Int
  bs : List Int
  deriving DecidableEq
def m0 : Msg := ⟨0, 0, []⟩
def atP (bag : List Msg) (i : Int) : Option Msg := if 0 ≤ i then bag[i.toNat]? else none
def delP (N : Int) (cut : Nat → Nat → Bool) (bag : List Msg) (i : Int) : Msg × Int × List Msg := match atP bag i with
  | none => (m0, 4, bag)
  | some m => if openB N cut m.f m.t then (m, 0, bag.eraseIdx i.toNat) else (m0, 6, bag)
def dropP (bag : List Msg) (i : Int) : Int × List Msg := match atP bag i with
  | none => (4, bag)
  | some _ => (0, bag.eraseIdx i.toNat)
def dblP (bag : List Msg) (i : Int) : Int × List Msg := match atP bag i with
  | none => (4, bag)
  | some m => if 64 ≤ bag.length then (3, bag) else (0, bag ++ [m])
def sendP (N : Int) (cut : Nat → Nat → Bool) (bag : List Msg) (a b : Int) (bs : List Int) : Int × List Msg :=
  if twoB N a b = false then (1, bag) else if 16384 < bs.length then (7, bag) else if openB N cut a b = false then (6, bag) else if 64 ≤ bag.length then (3, bag) else (0, bag ++ [⟨a, b, bs⟩])

/-- A row that lies still: in a block of R. -/
def RD (R : Nat → Prop) (w : World) (s : Nat) (A : Option Addr) (n : Nat) (xs : List Value) : Prop := Reads w w.heap.size s A n xs ∧ (0 < n → ∀ ad, A = some ad → R ad.block)
theorem RD.reads {R : Nat → Prop} {w : World} {s n : Nat} {A : Option Addr} {xs : List Value} (h : RD R w s A n xs) : Reads w w.heap.size s A n xs := h.1
/-- Nothing but S turned; what lies still stays so, and may have grown. -/
structure Upd (S R R' : Nat → Prop) (w w' : World) : Prop where
  far : Far S w w'
  off : ∀ k, S k → ¬ R k
  up : ∀ k, R k → R' k
  old : ∀ k, R' k → R k ∨ w.heap.size ≤ k
  lt : ∀ k, R' k → k < w'.heap.size
theorem reads_far {S : Nat → Prop} {w w' : World} {B s n : Nat} {A : Option Addr} {xs : List Value} (h : Reads w B s A n xs) (hB : B ≤ w.heap.size) (hf : Far S w w') (hs : 0 < n → ∀ ad, A = some ad → ¬ S ad.block) : Reads w' B s A n xs := by
  refine ⟨h.1, fun hn => ?_⟩
  obtain ⟨ad, e, hb, hc⟩ := h.2 hn
  refine ⟨ad, e, hb, fun j u hu => ?_⟩
  have h1 := hc j u hu
  have hk := hf.block ad.block (by omega) (hs hn ad e)
  have hbk : (ad.add j).block = ad.block := block_of_add _ _
  have : w'.heap[(ad.add j).block]? = w.heap[(ad.add j).block]? := by rw [hbk]; exact hk
  unfold World.cell? at h1 ⊢
  rw [this]; exact h1
theorem RD.upd {S R R' : Nat → Prop} {w w' : World} {s n : Nat} {A : Option Addr} {xs : List Value} (h : RD R w s A n xs) (hu : Upd S R R' w w') : RD R' w' s A n xs :=
  ⟨(reads_far h.1 (Nat.le_refl _) hu.far fun hn ad e hS => hu.off _ hS (h.2 hn ad e)).more hu.far.size, fun hn ad e => hu.up _ (h.2 hn ad e)⟩
theorem Upd.refl {R : Nat → Prop} {w : World} (hl : ∀ k, R k → k < w.heap.size) : Upd (fun _ => False) R R w w := ⟨Far.refl _ _, fun _ h => h.elim, fun _ h => h, fun _ h => .inl h, hl⟩
theorem Far.mono {S T : Nat → Prop} {w w' : World} (h : Far S w w') (hs : ∀ k, S k → T k) : Far T w w' := ⟨h.os, h.tape, h.output, h.size, fun k hk hn => h.block k hk fun hS => hn (hs k hS)⟩
theorem Upd.of_below {R : Nat → Prop} {w w' : World} (hl : ∀ k, R k → k < w.heap.size) (h : Below w.heap.size w w') : Upd (fun _ => False) R R w w' := ⟨Far.of_below h, fun _ h => h.elim, fun _ h => h, fun _ h => .inl h, fun k hk => Nat.lt_of_lt_of_le (hl k hk) h.size⟩
theorem Upd.widen {S T R R' : Nat → Prop} {w w' : World} (h : Upd S R R' w w') (hs : ∀ k, S k → T k) (ht : ∀ k, T k → ¬ R k) : Upd T R R' w w' := ⟨h.far.mono hs, ht, h.up, h.old, h.lt⟩
theorem Upd.trans {S T U R R' R'' : Nat → Prop} {a b c : World} (h : Upd S R R' a b) (k : Upd T R' R'' b c) (hu : ∀ x, U x → ¬ R x) (hs : ∀ x, S x → U x) (ht : ∀ x, x < a.heap.size → T x → U x) : Upd U R R'' a c :=
  ⟨(h.far.mono hs).trans k.far ht, hu, fun x hx => k.up x (h.up x hx), fun x hx => by
    rcases k.old x hx with h1 | h1
    · exact h.old x h1
    · exact .inr (Nat.le_trans h.far.size h1), k.lt⟩
/-- More lies still. -/
theorem Upd.more {S R R' : Nat → Prop} {w w' : World} (h : Upd S R R' w w') (X : Nat → Prop) (h1 : ∀ k, X k → w.heap.size ≤ k) (h2 : ∀ k, X k → k < w'.heap.size) : Upd S R (fun k => R' k ∨ X k) w w' :=
  ⟨h.far, h.off, fun k hk => .inl (h.up k hk), fun k hk => by
    rcases hk with hk | hk
    · exact h.old k hk
    · exact .inr (h1 k hk), fun k hk => by
    rcases hk with hk | hk
    · exact h.lt k hk
    · exact h2 k hk⟩

structure MsgAt (R : Nat → Prop) (w : World) (r : Raw) (m : Msg) : Prop where
  f : r.f = m.f
  t : r.t = m.t
  n : r.n = m.bs.length
  le : m.bs.length ≤ 1000000000
  rd : RD R w 1 r.A m.bs.length (m.bs.map (.int .u8))
theorem MsgAt.upd {S R R' : Nat → Prop} {w w' : World} {r : Raw} {m : Msg} (h : MsgAt R w r m) (hu : Upd S R R' w w') : MsgAt R' w' r m := ⟨h.f, h.t, h.n, h.le, h.rd.upd hu⟩
/-- Rows of messages. -/
def MsgsAt (R : Nat → Prop) (w : World) (rs : List Raw) (bag : List Msg) : Prop := rs.length = bag.length ∧ ∀ (k : Nat) (r : Raw) (m : Msg), rs[k]? = some r → bag[k]? = some m → MsgAt R w r m
theorem MsgsAt.upd {S R R' : Nat → Prop} {w w' : World} {rs : List Raw} {bag : List Msg} (h : MsgsAt R w rs bag) (hu : Upd S R R' w w') : MsgsAt R' w' rs bag := ⟨h.1, fun k r m h1 h2 => (h.2 k r m h1 h2).upd hu⟩
theorem MsgsAt.nil {R : Nat → Prop} {w : World} : MsgsAt R w [] [] := ⟨rfl, fun k r m h => by cases h⟩
theorem MsgsAt.snoc {R : Nat → Prop} {w : World} {rs : List Raw} {bag : List Msg} {r : Raw} {m : Msg} (h : MsgsAt R w rs bag) (h1 : MsgAt R w r m) : MsgsAt R w (rs ++ [r]) (bag ++ [m]) := by
  refine ⟨by simp [h.1], fun k r' m' e1 e2 => ?_⟩
  have hl := h.1
  by_cases hk : k < rs.length
  · rw [List.getElem?_append_left hk] at e1
    rw [List.getElem?_append_left (by omega)] at e2
    exact h.2 k r' m' e1 e2
  · rw [List.getElem?_append_right (by omega)] at e1
    rw [List.getElem?_append_right (by omega)] at e2
    rw [hl] at e1
    have hk0 : k - bag.length = 0 := by have := (List.getElem?_eq_some_iff.1 e1).1; simp at this; omega
    rw [hk0] at e1 e2
    simp at e1 e2
    subst e1 e2
    exact h1
theorem MsgsAt.erase {R : Nat → Prop} {w : World} {rs : List Raw} {bag : List Msg} (h : MsgsAt R w rs bag) (k : Nat) : MsgsAt R w (rs.take k ++ rs.drop (k + 1)) (bag.eraseIdx k) := by
  have hl := h.1
  have e : rs.take k ++ rs.drop (k + 1) = rs.eraseIdx k := by rw [List.eraseIdx_eq_take_drop_succ]
  rw [e]
  refine ⟨by rw [List.length_eraseIdx, List.length_eraseIdx, hl], fun j r m h1 h2 => ?_⟩
  rw [List.getElem?_eraseIdx] at h1 h2
  split at h1 <;> rename_i hj
  · rw [if_pos hj] at h2; exact h.2 _ _ _ h1 h2
  · rw [if_neg hj] at h2; exact h.2 _ _ _ h1 h2
theorem MsgsAt.get {R : Nat → Prop} {w : World} {rs : List Raw} {bag : List Msg} (h : MsgsAt R w rs bag) {k : Nat} {m : Msg} (hk : bag[k]? = some m) : ∃ rA rc, rs[k]? = some ⟨m.f, m.t, rA, m.bs.length, rc⟩ ∧ RD R w 1 rA m.bs.length (m.bs.map (.int .u8)) ∧ m.bs.length ≤ 1000000000 := by
  have hl := h.1
  have hlt : k < rs.length := by have := (List.getElem?_eq_some_iff.1 hk).1; omega
  have h1 := h.2 k _ m (List.getElem?_eq_getElem hlt) hk
  obtain ⟨e1, e2, e3, e4, e5⟩ := h1
  refine ⟨rs[k].A, rs[k].c, ?_, e5, e4⟩
  rw [List.getElem?_eq_getElem hlt, ← e1, ← e2, ← e3]
theorem MsgsAt.pairs {R : Nat → Prop} {w : World} {rs : List Raw} {bag : List Msg} (h : MsgsAt R w rs bag) : rs.map ft = bag.map fun m => (m.f, m.t) := by
  apply List.ext_getElem?
  intro k
  rw [List.getElem?_map, List.getElem?_map]
  have hl := h.1
  by_cases hk : k < bag.length
  · rw [List.getElem?_eq_getElem hk, List.getElem?_eq_getElem (by omega)]
    have h1 := h.2 k _ _ (List.getElem?_eq_getElem (by omega)) (List.getElem?_eq_getElem hk)
    simp [ft, h1.f, h1.t]
  · rw [List.getElem?_eq_none (by omega), List.getElem?_eq_none (by omega)]; rfl

/-- A net in memory. -/
structure NetAt (w : World) (R : Nat → Prop) (G : Nat) (A : Option Addr) (N : Int) (cut : Nat → Nat → Bool) (bag : List Msg) : Prop where
  ex : ∃ c rs, Blk w G 56 (netA (.slice A bag.length c) 64 N cut) ∧ w.ownsRow 0 33 3 (.slice A bag.length c) bag.length (rs.flatMap Raw.cs) ∧ MsgsAt R w rs bag
  lo : 1 ≤ N
  hi : N ≤ 15
  len : bag.length ≤ 64
  off : ∀ k, wr G A k → ¬ R k
  lt : ∀ k, R k → k < w.heap.size
theorem NetAt.G_lt {w : World} {R : Nat → Prop} {G : Nat} {A : Option Addr} {N : Int} {cut : Nat → Nat → Bool} {bag : List Msg} (h : NetAt w R G A N cut bag) : G < w.heap.size := by
  obtain ⟨c, rs, h1, _⟩ := h.ex
  exact h1.lt
theorem NetAt.wr_lt {w : World} {R : Nat → Prop} {G : Nat} {A : Option Addr} {N : Int} {cut : Nat → Nat → Bool} {bag : List Msg} (h : NetAt w R G A N cut bag) {k : Nat} (hk : wr G A k) : k < w.heap.size := by
  obtain ⟨c, rs, h1, h2, _⟩ := h.ex
  rcases hk with rfl | ⟨ad, rfl, rfl⟩
  · exact h1.lt
  · exact (h2.lt ad.block rfl).2
theorem own_low {w : World} {base base' : Nat} {e : TypeId} {size n : Nat} {v : Value} {xs : List Value} (h : w.ownsRow base e size v n xs) (hb : base' ≤ base) : w.ownsRow base' e size v n xs := by
  obtain ⟨q1, q2⟩ := h
  refine ⟨q1, ?_⟩
  rcases q2 with q2 | ⟨g, cap, cur, e1, e2, e3⟩
  · exact .inl q2
  · exact .inr ⟨g, cap, cur, e1, by omega, e3⟩
theorem NetAt.upd {S R R' : Nat → Prop} {w w' : World} {G : Nat} {A : Option Addr} {N : Int} {cut : Nat → Nat → Bool} {bag : List Msg} (h : NetAt w R G A N cut bag) (hu : Upd S R R' w w') (hs : ∀ k, wr G A k → ¬ S k) : NetAt w' R' G A N cut bag := by
  have hwl := @NetAt.wr_lt _ _ _ _ _ _ _ h
  obtain ⟨c, rs, h1, h2, h3⟩ := h.ex
  refine ⟨⟨c, rs, h1.far_ hu.far (hs G (.inl rfl)), own_far h2 hu.far fun k e => ?_, h3.upd hu⟩, h.lo, h.hi, h.len, fun k hk hR => ?_, hu.lt⟩
  · cases A with
    | none => cases e
    | some ad => simp only [Value.ownBlock, Option.some.injEq] at e; exact hs k (.inr ⟨ad, rfl, e⟩)
  · rcases hu.old k hR with h4 | h4
    · exact h.off k hk h4
    · have := hwl hk; omega
theorem NetAt.below {R : Nat → Prop} {w w' : World} {G : Nat} {A : Option Addr} {N : Int} {cut : Nat → Nat → Bool} {bag : List Msg} (h : NetAt w R G A N cut bag) (hb : Below w.heap.size w w') : NetAt w' R G A N cut bag := h.upd (Upd.of_below h.lt hb) (fun _ _ h => h)
theorem own_own_ne {w : World} {b b' : Nat} {e e' : TypeId} {s s' n n' : Nat} {v v' : Value} {xs xs' : List Value} (h : w.ownsRow b e s v n xs) (h' : w.ownsRow b' e' s' v' n' xs') (he : e ≠ e') {k : Nat} (hk : v.ownBlock = some k) : v'.ownBlock ≠ some k := by
  intro hk'
  rcases h.2 with ⟨rfl, _⟩ | ⟨g, cap, cur, rfl, _, hg, _⟩
  · cases hk
  · rcases h'.2 with ⟨rfl, _⟩ | ⟨g', cap', cur', rfl, _, hg', _⟩
    · cases hk'
    · simp only [Value.ownBlock, Option.some.injEq] at hk hk'
      subst hk; subst hk'
      rw [hg] at hg'
      simp only [Option.some.injEq, Obj.cells.injEq] at hg'
      exact he hg'.2.1

/-- A message handed out, in memory of its own. -/
structure Own (w : World) (B : Nat) (m : Msg) (A : Option Addr) (c : Nat) : Prop where
  hc : m.bs.length ≤ c
  hm : c ≤ maxLen
  row : w.ownsRow B 5 1 (.slice A m.bs.length c) m.bs.length (m.bs.map (.int .u8))
def msgV (m : Msg) (A : Option Addr) (c : Nat) : Value := .agg #[.int .i64 m.f, .int .i64 m.t, .slice A m.bs.length c]
theorem own_m0 (w : World) (B : Nat) : Own w B m0 none 0 := ⟨Nat.le_refl _, Nat.zero_le _, rfl, .inl ⟨rfl, rfl⟩⟩
theorem msg0_eq : msg0 = msgV m0 none 0 := rfl
theorem Own.below {w w' : World} {B : Nat} {m : Msg} {A : Option Addr} {c : Nat} (h : Own w B m A c) (hb : Below w.heap.size w w') : Own w' B m A c := ⟨h.hc, h.hm, own_below0 h.row hb⟩
theorem Own.far {S : Nat → Prop} {w w' : World} {B : Nat} {m : Msg} {A : Option Addr} {c : Nat} (h : Own w B m A c) (hb : Far S w w') (hs : ∀ k, S k → k < B) : Own w' B m A c :=
  ⟨h.hc, h.hm, own_far h.row hb fun k e hS => by have := (h.row.lt k e).1; have := hs k hS; omega⟩
theorem rd_own {w : World} {B n c : Nat} {e : TypeId} {s : Nat} {A : Option Addr} {xs : List Value} {R : Nat → Prop} (h : w.ownsRow B e s (.slice A n c) n xs) (hR : ∀ k, (Value.slice A n c).ownBlock = some k → R k) : RD R w s A n xs :=
  ⟨Reads.of_own h, fun _ ad e => hR _ (by subst e; rfl)⟩
/-- What an act leaves of its net. -/
def Net1 (w w' : World) (R : Nat → Prop) (G : Nat) (A : Option Addr) (N : Int) (cut : Nat → Nat → Bool) (bag : List Msg) : Prop :=
  ∃ R' A', Upd (wr G A) R R' w w' ∧ NetAt w' R' G A' N cut bag ∧ ∀ k, wr G A' k → wr G A k ∨ w.heap.size ≤ k
theorem Net1.same {w w' : World} {R : Nat → Prop} {G : Nat} {A : Option Addr} {N : Int} {cut : Nat → Nat → Bool} {bag : List Msg} (h : NetAt w R G A N cut bag) (hb : Below w.heap.size w w') : Net1 w w' R G A N cut bag :=
  ⟨R, A, (Upd.of_below h.lt hb).widen (fun _ h => h.elim) h.off, h.below hb, fun _ hk => .inl hk⟩
theorem atP_has {bag : List Msg} {i : Int} (h : atP bag i = none) : hasB bag.length i = false := by
  refine decide_eq_false fun hh => ?_
  unfold atP at h
  rw [if_pos hh.1, List.getElem?_eq_getElem (by omega)] at h
  cases h
theorem atP_some {bag : List Msg} {i : Int} {m : Msg} (h : atP bag i = some m) : ∃ k : Nat, i = k ∧ k < bag.length ∧ bag[k]? = some m := by
  unfold atP at h
  split at h
  · rename_i h0
    exact ⟨i.toNat, by omega, (List.getElem?_eq_some_iff.1 h).1, h⟩
  · cases h
end Go.Proofs.Ytfmflbcmigiciaa
