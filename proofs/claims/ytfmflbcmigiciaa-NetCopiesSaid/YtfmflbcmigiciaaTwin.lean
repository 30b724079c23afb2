/- Chapter 05: a net and its copy, the document's and its copy, side by side. -/
import Derived.Test.YtfmflbcmigiciaaPlay
namespace Go.Proofs.Ytfmflbcmigiciaa
open Go.RowKit

abbrev St := (Nat → Nat → Bool) × List Msg
def stepP (N : Int) (s : St) (x : ActM) : St := actP N s.1 s.2 x
def runP (N : Int) (s : St) (l : List ActM) : St := l.foldl (stepP N) s
theorem runP_snoc {N : Int} {s : St} {l : List ActM} {j : Nat} {x : ActM} (h : l[j]? = some x) : runP N s (l.take (j + 1)) = stepP N (runP N s (l.take j)) x := by
  unfold runP
  rw [List.take_add_one, h, List.foldl_append]
  rfl

/-- The copy beside its net and the document's. -/
structure L3 (w0 w : World) (N : Int) (G G' M K : Nat) (s : St) : Prop where
  ex : ∃ R A A', NetAt w R G A N s.1 s.2 ∧ NetAt w R G' A' N s.1 s.2 ∧ RefAt w R M N s.1 s.2 K ∧ (∀ k, wr G' A' k → ¬ wr G A k) ∧ ¬ wr G A M ∧ ¬ wr G' A' M ∧ (∀ k, wr G A k → w0.heap.size ≤ k) ∧ (∀ k, wr G' A' k → w0.heap.size ≤ k) ∧ w0.heap.size ≤ M ∧ (∀ k, k < w0.heap.size → R k)
  below : Below w0.heap.size w0 w
theorem LS.copy3 {w0 w : World} {N : Int} {G M K : Nat} (h : LS w0 w N G M K) :
    Calls Try.prog 21 #[.pointer (some ⟨G, 0, none⟩)] w fun e w' => ∃ G' s, e = .returned (.pointer (some ⟨G', 0, none⟩)) ∧ L3 w0 w' N G G' M K s := by
  obtain ⟨⟨R, A, cut, bag, h1, h2, h3, h4, h5, h6⟩, hb⟩ := h
  refine (copy_any h1).mono ?_
  rintro e w' ⟨G', A', R', rfl, hb', u, o, n, l⟩
  have hs := hb.size
  refine ⟨G', (cut, bag), rfl, ⟨R', A, A', h1.grow hb' u o n.lt, n, h2.grow hb' u o n.lt, fun k hk hw => ?_, h3, fun hk => ?_, h4, fun k hk => ?_, h5, fun k hk => u k (h6 k hk)⟩, hb.trans (hb'.mono hs)⟩
  · have := l k hk; have := h1.wr_lt hw; omega
  · have := l _ hk; have := h2.M_lt; omega
  · have := l k hk; omega

/-- Two pairs. -/
structure LQ (w0 w : World) (N : Int) (G M G' M' K K' : Nat) (s s' : St) : Prop where
  ex : ∃ R A A', NetAt w R G A N s.1 s.2 ∧ RefAt w R M N s.1 s.2 K ∧ NetAt w R G' A' N s'.1 s'.2 ∧ RefAt w R M' N s'.1 s'.2 K' ∧
    (∀ k, wr G A k → ¬ wr G' A' k) ∧ ¬ wr G A M ∧ ¬ wr G A M' ∧ ¬ wr G' A' M ∧ ¬ wr G' A' M' ∧ M ≠ M' ∧
    (∀ k, wr G A k → w0.heap.size ≤ k) ∧ (∀ k, wr G' A' k → w0.heap.size ≤ k) ∧ w0.heap.size ≤ M ∧ w0.heap.size ≤ M' ∧ (∀ k, k < w0.heap.size → R k)
  below : Below w0.heap.size w0 w
theorem LQ.swap {w0 w : World} {N : Int} {G M G' M' K K' : Nat} {s s' : St} (h : LQ w0 w N G M G' M' K K' s s') : LQ w0 w N G' M' G M K' K s' s := by
  obtain ⟨⟨R, A, A', h1, h2, h3, h4, h5, h6, h7, h8, h9, h10, h11, h12, h13, h14, h15⟩, hb⟩ := h
  exact ⟨⟨R, A', A, h3, h4, h1, h2, fun k hk hw => h5 k hw hk, h9, h8, h7, h6, Ne.symm h10, h12, h11, h14, h13, h15⟩, hb⟩
theorem L3.was {w0 w : World} {N : Int} {G G' M K : Nat} {s : St} (h : L3 w0 w N G G' M K s) :
    ∃ Ab lb cb Ac lc cc, Blk w M 64 #[.int .i64 N, .slice Ab lb cb, .slice Ac lc cc] ∧ ∀ w1, Below w.heap.size w w1 → Blk w1 w.heap.size 64 #[.int .i64 N, .slice Ab lb cb, .slice Ac lc cc] → LQ w0 w1 N G M G' w.heap.size K K s s := by
  obtain ⟨⟨R, A, A', h1, h2, h3, h4, h5, h6, h7, h8, h9, h10⟩, hb⟩ := h
  have h30 := h3
  obtain ⟨⟨Ab, cb, Ac, cc, rs, cl, b1, b2, b3, b4, b5, b6, b7⟩, q1, q2, q3, q4, q5⟩ := h3
  have hM := b1.lt
  refine ⟨Ab, _, cb, Ac, _, cc, b1, fun w1 hb1 hk => ?_⟩
  have hu := Upd.of_below q5 hb1
  refine ⟨⟨R, A, A', h1.below hb1, h30.below hb1, h2.below hb1, ⟨⟨Ab, cb, Ac, cc, rs, cl, hk, b2.upd hu, b3.upd hu, b4.upd hu, b5, b6, b7⟩, q1, q2, q3, fun hR => ?_, hu.lt⟩, fun k hk hw => h4 k hw hk, h5, fun hw => ?_, h6, fun hw => ?_, by omega, h7, h8, h9, hb.size, h10⟩, hb.trans (hb1.mono hb.size)⟩
  · have := q5 _ hR; omega
  · have := h1.wr_lt hw; omega
  · have := h2.wr_lt hw; omega
theorem LQ.more {w0 w w' : World} {N : Int} {G M G' M' K K' : Nat} {s s' : St} (h : LQ w0 w N G M G' M' K K' s s') (hb' : Below w.heap.size w w') : LQ w0 w' N G M G' M' K K' s s' := by
  obtain ⟨⟨R, A, A', h1, h2, h3, h4, h5, h6, h7, h8, h9, h10, h11, h12, h13, h14, h15⟩, hb⟩ := h
  exact ⟨⟨R, A, A', h1.below hb', h2.below hb', h3.below hb', h4.below hb', h5, h6, h7, h8, h9, h10, h11, h12, h13, h14, h15⟩, hb.trans (hb'.mono hb.size)⟩
theorem LQ.act {w0 w : World} {N : Int} {G M G' M' K K' : Nat} {s s' : St} (h : LQ w0 w N G M G' M' K K' s s') (hK : K ≤ 100000) (x : ActM) (hx : Reads w0 w0.heap.size 1 x.A x.bs.length (x.bs.map (.int .u8))) (hle : x.bs.length ≤ 160000) :
    Calls Try.prog 22 #[.pointer (some ⟨G, 0, none⟩), .pointer (some ⟨M, 0, none⟩), .agg #[.int .i64 x.d, .int .i64 x.a, .int .i64 x.b, .int .i64 x.i, .slice x.A x.bs.length x.c]] w fun e w' => e = .returned (.bool true) ∧ LQ w0 w' N G M G' M' (K + 1) K' (stepP N s x) s' := by
  obtain ⟨⟨R, A, A', h1, h2, h3, h4, h5, h6, h7, h8, h9, h10, h11, h12, h13, h14, h15⟩, hb⟩ := h
  refine (act_any x h1 h2 h6 hK (rd_base hx hb h15) hle).mono ?_
  rintro e w' ⟨rfl, ⟨R', A2, hu, ha, n1, n2, n3⟩⟩
  have hs := hb.size
  refine ⟨rfl, ⟨R', A2, A', n1, n2, h3.upd hu (fun k hk hS => ?_), h4.upd hu (fun hS => ?_), fun k hk hw => ?_, n3, fun hk => ?_, h8, h9, h10, fun k hk => ?_, h12, h13, h14, fun k hk => hu.up k (h15 k hk)⟩, hb.trans (hu.far.below (fun k hk => ?_) hs)⟩
  · rcases hS with h | h
    · exact h5 k h hk
    · exact h8 (h ▸ hk)
  · rcases hS with h | h
    · exact h7 h
    · exact h10 h.symm
  · rcases ha k hk with h | h
    · exact h5 k h hw
    · have := h3.wr_lt hw; omega
  · rcases ha _ hk with h | h
    · exact h7 h
    · have := h4.M_lt; omega
  · rcases ha k hk with h | h
    · exact h11 k h
    · omega
  · rcases hk with h | h
    · exact h11 k h
    · omega
theorem LQ.stands {w0 w : World} {N : Int} {G M G' M' K K' : Nat} {s s' : St} (h : LQ w0 w N G M G' M' K K' s s') (hK : K ≤ 100000) :
    Calls Try.prog 23 #[.pointer (some ⟨G, 0, none⟩), .pointer (some ⟨M, 0, none⟩)] w fun e w' => e = .returned (.bool true) ∧ LQ w0 w' N G M G' M' K K' s s' := by
  have h0 := h
  obtain ⟨⟨R, A, A', h1, h2, _⟩, hb⟩ := h
  exact (stands_any h1 h2 (by omega)).mono fun e w' ⟨he, hb'⟩ => ⟨he, h0.more hb'⟩
/-- A net beside the other's document. -/
theorem LQ.cross {w0 w : World} {N : Int} {G M G' M' K K' : Nat} {s : St} (h : LQ w0 w N G M G' M' K K' s s) (hK : K' ≤ 100000) :
    Calls Try.prog 23 #[.pointer (some ⟨G, 0, none⟩), .pointer (some ⟨M', 0, none⟩)] w fun e w' => e = .returned (.bool true) ∧ LQ w0 w' N G M G' M' K K' s s := by
  have h0 := h
  obtain ⟨⟨R, A, A', h1, h2, h3, h4, _⟩, hb⟩ := h
  exact (stands_any h1 h4 (by omega)).mono fun e w' ⟨he, hb'⟩ => ⟨he, h0.more hb'⟩
/-- A net laid; the document's laid later. -/
structure L1 (w0 w : World) (N : Int) (G : Nat) : Prop where
  net : NetAt w (fun k => k < w0.heap.size) G none N (fun _ _ => false) []
  G : w0.heap.size ≤ G
  below : Below w0.heap.size w0 w
theorem l1_new {N : Int} {w : World} (h1 : 1 ≤ N) (h2 : N ≤ 15) : Calls Try.prog 9 #[.int .i64 N] w fun e w' => e = .returned (.tuple #[.pointer (some ⟨w.heap.size, 0, none⟩), .int .i64 0]) ∧ L1 w w' N w.heap.size := by
  refine (c_new N w (fun k => k < w.heap.size) (fun _ h => h) h1 h2).mono ?_
  rintro e w1 ⟨rfl, hM, hb1, hlt⟩
  exact ⟨rfl, hM.net, Nat.le_refl _, hb1⟩
theorem L1.ref {w0 w : World} {N : Int} {G : Nat} (h : L1 w0 w N G) (h1 : 1 ≤ N) (h2 : N ≤ 15) : Calls Try.prog 20 #[.int .i64 N] w fun e w' => ∃ M, e = .returned (.pointer (some ⟨M, 0, none⟩)) ∧ LS w0 w' N G M 0 := by
  obtain ⟨hn, hG, hb⟩ := h
  have hs := hb.size
  refine (rnew_yes N w (fun k => k < w0.heap.size) (fun k hk => by omega) h1 h2).mono ?_
  rintro e w2 ⟨rfl, hb2, hr⟩
  have hw : ∀ k, wr G none k → k = G := by
    rintro k (rfl | ⟨ad, e, _⟩)
    · rfl
    · cases e
  have hgl := hn.G_lt
  exact ⟨w.heap.size, rfl, LS.start (hn.below hb2) hr (fun hk => by have := hw _ hk; omega) (fun k hk => by have := hw _ hk; omega) hs (fun k hk => hk) (hb.trans (hb2.mono hs))⟩
end Go.Proofs.Ytfmflbcmigiciaa
