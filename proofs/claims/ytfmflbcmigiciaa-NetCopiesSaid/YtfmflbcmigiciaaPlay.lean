/- Chapter 05: a net beside the document's, since a law began; a copy beside both. -/
import Derived.Test.YtfmflbcmigiciaaCopyN
import Derived.Test.YtfmflbcmigiciaaMany
namespace Go.Proofs.Ytfmflbcmigiciaa
open Go.RowKit

theorem NetAt.grow {w w' : World} {R R' : Nat → Prop} {G : Nat} {A : Option Addr} {N : Int} {cut : Nat → Nat → Bool} {bag : List Msg} (h : NetAt w R G A N cut bag) (hb : Below w.heap.size w w') (h1 : ∀ k, R k → R' k) (h2 : ∀ k, R' k → R k ∨ w.heap.size ≤ k) (h3 : ∀ k, R' k → k < w'.heap.size) : NetAt w' R' G A N cut bag :=
  h.upd (show Upd (fun _ => False) R R' w w' from ⟨Far.of_below hb, fun _ h => h.elim, h1, h2, h3⟩) fun _ _ h => h
theorem RefAt.grow {w w' : World} {R R' : Nat → Prop} {M : Nat} {N : Int} {cut : Nat → Nat → Bool} {bag : List Msg} {K : Nat} (h : RefAt w R M N cut bag K) (hb : Below w.heap.size w w') (h1 : ∀ k, R k → R' k) (h2 : ∀ k, R' k → R k ∨ w.heap.size ≤ k) (h3 : ∀ k, R' k → k < w'.heap.size) : RefAt w' R' M N cut bag K :=
  h.upd (show Upd (fun _ => False) R R' w w' from ⟨Far.of_below hb, fun _ h => h.elim, h1, h2, h3⟩) fun h => h
theorem rd_base {w0 w : World} {R : Nat → Prop} {s n : Nat} {A : Option Addr} {xs : List Value} (h : Reads w0 w0.heap.size s A n xs) (hb : Below w0.heap.size w0 w) (hR : ∀ k, k < w0.heap.size → R k) : RD R w s A n xs :=
  ⟨(h.below hb).more hb.size, fun hp ad e => by
    obtain ⟨ad', e', hB, _⟩ := h.2 hp
    rw [e] at e'; cases e'
    exact hR _ hB⟩

/-- A net and the document's, the same links, the same bag. -/
structure LS (w0 w : World) (N : Int) (G M K : Nat) : Prop where
  ex : ∃ R A cut bag, NetAt w R G A N cut bag ∧ RefAt w R M N cut bag K ∧ ¬ wr G A M ∧ (∀ k, wr G A k → w0.heap.size ≤ k) ∧ w0.heap.size ≤ M ∧ (∀ k, k < w0.heap.size → R k)
  below : Below w0.heap.size w0 w
theorem LS.more {w0 w w' : World} {N : Int} {G M K : Nat} (h : LS w0 w N G M K) (hb : Below w.heap.size w w') : LS w0 w' N G M K := by
  obtain ⟨⟨R, A, cut, bag, h1, h2, h3, h4, h5, h6⟩, hbw⟩ := h
  exact ⟨⟨R, A, cut, bag, h1.below hb, h2.below hb, h3, h4, h5, h6⟩, hbw.trans (hb.mono hbw.size)⟩
theorem LS.moreK {w0 w : World} {N : Int} {G M K K' : Nat} (h : LS w0 w N G M K) (hk : K ≤ K') : LS w0 w N G M K' := by
  obtain ⟨⟨R, A, cut, bag, h1, h2, h3, h4, h5, h6⟩, hbw⟩ := h
  exact ⟨⟨R, A, cut, bag, h1, h2.moreK hk, h3, h4, h5, h6⟩, hbw⟩
theorem LS.act {w0 w : World} {N : Int} {G M K : Nat} (h : LS w0 w N G M K) (hK : K ≤ 100000) (x : ActM) (hx : Reads w0 w0.heap.size 1 x.A x.bs.length (x.bs.map (.int .u8))) (hle : x.bs.length ≤ 160000) :
    Calls Try.prog 22 #[.pointer (some ⟨G, 0, none⟩), .pointer (some ⟨M, 0, none⟩), .agg #[.int .i64 x.d, .int .i64 x.a, .int .i64 x.b, .int .i64 x.i, .slice x.A x.bs.length x.c]] w fun e w' => e = .returned (.bool true) ∧ LS w0 w' N G M (K + 1) := by
  obtain ⟨⟨R, A, cut, bag, h1, h2, h3, h4, h5, h6⟩, hb⟩ := h
  refine (act_any x h1 h2 h3 hK (rd_base hx hb h6) hle).mono ?_
  rintro e w' ⟨rfl, ⟨R', A', hu, ha, n1, n2, n3⟩⟩
  have hs := hb.size
  refine ⟨rfl, ⟨R', A', _, _, n1, n2, n3, fun k hk => ?_, h5, fun k hk => hu.up k (h6 k hk)⟩, hb.trans (hu.far.below (fun x hx => ?_) hs)⟩
  · rcases ha k hk with h | h
    · exact h4 k h
    · omega
  · rcases hx with h | h
    · exact h4 x h
    · omega
theorem LS.stands {w0 w : World} {N : Int} {G M K : Nat} (h : LS w0 w N G M K) (hK : K ≤ 100000) :
    Calls Try.prog 23 #[.pointer (some ⟨G, 0, none⟩), .pointer (some ⟨M, 0, none⟩)] w fun e w' => e = .returned (.bool true) ∧ LS w0 w' N G M K := by
  have h0 := h
  obtain ⟨⟨R, A, cut, bag, h1, h2, h3, h4, h5, h6⟩, hb⟩ := h
  exact (stands_any h1 h2 (by omega)).mono fun e w' ⟨he, hb'⟩ => ⟨he, h0.more hb'⟩
theorem LS.awake {w0 w : World} {N : Int} {G M K : Nat} (h : LS w0 w N G M K) :
    Calls Try.prog 8 #[] w fun e w' => e = .returned (.bool true) ∧ LS w0 w' N G M K :=
  (awake_any w).mono fun _ _ ⟨he, hb'⟩ => ⟨he, h.more hb'⟩
theorem LS.start {w0 w : World} {R : Nat → Prop} {N : Int} {G M : Nat} {A : Option Addr} {cut : Nat → Nat → Bool} {bag : List Msg} {K : Nat} (h1 : NetAt w R G A N cut bag) (h2 : RefAt w R M N cut bag K) (h3 : ¬ wr G A M) (h4 : ∀ k, wr G A k → w0.heap.size ≤ k) (h5 : w0.heap.size ≤ M) (h6 : ∀ k, k < w0.heap.size → R k) (hb : Below w0.heap.size w0 w) : LS w0 w N G M K :=
  ⟨⟨R, A, cut, bag, h1, h2, h3, h4, h5, h6⟩, hb⟩

/-- The copy and the document's, and the old net beside them. -/
structure LC (w0 w : World) (N : Int) (G G' M K : Nat) : Prop where
  ex : ∃ R A A' cut bag cut' bag', NetAt w R G A N cut bag ∧ NetAt w R G' A' N cut' bag' ∧ RefAt w R M N cut' bag' K ∧ (∀ k, wr G' A' k → ¬ wr G A k) ∧ ¬ wr G A M ∧ ¬ wr G' A' M ∧ (∀ k, wr G A k → w0.heap.size ≤ k) ∧ (∀ k, wr G' A' k → w0.heap.size ≤ k) ∧ w0.heap.size ≤ M ∧ (∀ k, k < w0.heap.size → R k)
  below : Below w0.heap.size w0 w
theorem LS.copy {w0 w : World} {N : Int} {G M K : Nat} (h : LS w0 w N G M K) :
    Calls Try.prog 21 #[.pointer (some ⟨G, 0, none⟩)] w fun e w' => ∃ G', e = .returned (.pointer (some ⟨G', 0, none⟩)) ∧ LC w0 w' N G G' M K := by
  obtain ⟨⟨R, A, cut, bag, h1, h2, h3, h4, h5, h6⟩, hb⟩ := h
  refine (copy_any h1).mono ?_
  rintro e w' ⟨G', A', R', rfl, hb', u, o, n, l⟩
  have hs := hb.size
  refine ⟨G', rfl, ⟨R', A, A', cut, bag, cut, bag, h1.grow hb' u o n.lt, n, h2.grow hb' u o n.lt, fun k hk hw => ?_, h3, fun hk => ?_, h4, fun k hk => ?_, h5, fun k hk => u k (h6 k hk)⟩, hb.trans (hb'.mono hs)⟩
  · have := l k hk; have := h1.wr_lt hw; omega
  · have := l _ hk; have := h2.M_lt; omega
  · have := l k hk; omega
/-- A call of the old net. -/
theorem LC.old {w0 w : World} {N : Int} {G G' M K : Nat} (h : LC w0 w N G G' M K) {f : FuncId} {args : Array Value} {p : Ending → Prop} (C : ∀ R A cut bag, NetAt w R G A N cut bag → Calls Try.prog f args w fun e w' => p e ∧ ∃ cut' bag', Net1 w w' R G A N cut' bag') :
    Calls Try.prog f args w fun e w' => p e ∧ LC w0 w' N G G' M K := by
  obtain ⟨⟨R, A, A', cut, bag, cut', bag', h1, h2, h3, h4, h5, h6, h7, h8, h9, h10⟩, hb⟩ := h
  refine (C R A cut bag h1).mono ?_
  rintro e w' ⟨hp, cutn, bagn, R2, A2, hu, n, l⟩
  have hs := hb.size
  refine ⟨hp, ⟨R2, A2, A', _, _, _, _, n, h2.upd hu h4, h3.upd hu h5, fun k hk hw => ?_, fun hk => ?_, h6, fun k hk => ?_, h8, h9, fun k hk => hu.up k (h10 k hk)⟩, hb.trans (hu.far.below h7 hs)⟩
  · rcases l k hw with h | h
    · exact h4 k hk h
    · have := h2.wr_lt hk; omega
  · rcases l _ hk with h | h
    · exact h5 h
    · have := h3.M_lt; omega
  · rcases l k hk with h | h
    · exact h7 k h
    · omega
theorem LC.drop {w0 w : World} {N : Int} {G G' M K : Nat} (h : LC w0 w N G G' M K) (i : Int) : Calls Try.prog 15 #[.pointer (some ⟨G, 0, none⟩), .int .i64 i] w fun e w' => (∃ r, e = .returned (.int .i64 r)) ∧ LC w0 w' N G G' M K :=
  h.old (p := fun e => ∃ r, e = .returned (.int .i64 r)) fun _ _ _ _ h1 => (c_drop h1 i).mono fun _ _ ⟨he, hn⟩ => ⟨⟨_, he⟩, _, _, hn⟩
theorem LC.cut {w0 w : World} {N : Int} {G G' M K : Nat} (h : LC w0 w N G G' M K) (a b : Int) : Calls Try.prog 18 #[.pointer (some ⟨G, 0, none⟩), .int .i64 a, .int .i64 b] w fun e w' => (∃ r, e = .returned (.int .i64 r)) ∧ LC w0 w' N G G' M K :=
  h.old (p := fun e => ∃ r, e = .returned (.int .i64 r)) fun _ _ _ _ h1 => (c_cut h1 a b).mono fun _ _ ⟨he, hn⟩ => ⟨⟨_, he⟩, _, _, hn⟩
theorem LC.done {w0 w : World} {N : Int} {G G' M K : Nat} (h : LC w0 w N G G' M K) : LS w0 w N G' M K := by
  obtain ⟨⟨R, A, A', cut, bag, cut', bag', h1, h2, h3, h4, h5, h6, h7, h8, h9, h10⟩, hb⟩ := h
  exact ⟨⟨R, A', cut', bag', h2, h3, h6, h8, h9, h10⟩, hb⟩
/-- Both laid. -/
theorem ls_news {N : Int} {w : World} (h1 : 1 ≤ N) (h2 : N ≤ 15) : Calls Try.prog 9 #[.int .i64 N] w fun e w' => e = .returned (.tuple #[.pointer (some ⟨w.heap.size, 0, none⟩), .int .i64 0]) ∧ Calls Try.prog 20 #[.int .i64 N] w' fun e w'' => ∃ M, e = .returned (.pointer (some ⟨M, 0, none⟩)) ∧ LS w w'' N w.heap.size M 0 := by
  refine (c_new N w (fun k => k < w.heap.size) (fun _ h => h) h1 h2).mono ?_
  rintro e w1 ⟨rfl, hM, hb1, hlt⟩
  refine ⟨rfl, (rnew_yes N w1 (fun k => k < w.heap.size) (fun k hk => by omega) h1 h2).mono ?_⟩
  rintro e w2 ⟨rfl, hb2, hr⟩
  have hw : ∀ k, wr w.heap.size none k → k = w.heap.size := by
    rintro k (rfl | ⟨ad, e, _⟩)
    · rfl
    · cases e
  exact ⟨w1.heap.size, rfl, LS.start (hM.net.below hb2) hr (fun hk => by have := hw _ hk; omega) (fun k hk => by have := hw _ hk; omega) hb1.size (fun k hk => hk) (hb1.trans (hb2.mono hb1.size))⟩
end Go.Proofs.Ytfmflbcmigiciaa
