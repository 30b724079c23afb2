/- Chapter 05: blocks of the law's own beside both nets; bytes that are counted up. -/
import Derived.Test.YtfmflbcmigiciaaPair
namespace Go.Proofs.Ytfmflbcmigiciaa
open Go.RowKit

/-- A net and the document's, and blocks of one's own that are none of theirs. -/
structure PX (w0 : World) (R0 : Nat → Prop) (G : Nat) (A0 : Option Addr) (M : Nat) (N : Int) (X : Nat → Prop) (w : World) (cn : Nat → Nat → Bool) (bn : List Msg) (cr : Nat → Nat → Bool) (br : List Msg) (K : Nat) : Prop where
  ex : ∃ R A, Upd (UM G A0 M) R0 R w0 w ∧ (∀ k, wr G A k → wr G A0 k ∨ w0.heap.size ≤ k) ∧ NetAt w R G A N cn bn ∧ RefAt w R M N cr br K ∧ ¬ wr G A M ∧ ∀ k, X k → k < w.heap.size ∧ w0.heap.size ≤ k ∧ ¬ R k ∧ ¬ wr G A k ∧ k ≠ M
section
variable {w0 w w' : World} {R0 : Nat → Prop} {G : Nat} {A0 : Option Addr} {M : Nat} {N : Int} {X : Nat → Prop} {cn cn' : Nat → Nat → Bool} {bn bn' : List Msg} {cr cr' : Nat → Nat → Bool} {br br' : List Msg} {K K' : Nat}
theorem PX.pp (h : PX w0 R0 G A0 M N X w cn bn cr br K) : PP w0 R0 G A0 M N w cn bn cr br K := by
  obtain ⟨R, A, hu, ha, h1, h2, h3, _⟩ := h.ex
  exact ⟨R, A, hu, ha, h1, h2, h3⟩
theorem PX.start {R : Nat → Prop} {A : Option Addr} (h1 : NetAt w R G A N cn bn) (h2 : RefAt w R M N cr br K) (h3 : ¬ wr G A M) : PX w R G A M N (fun _ => False) w cn bn cr br K := by
  obtain ⟨R', A', hu, ha, g1, g2, g3⟩ := (PP.start h1 h2 h3).ex
  exact ⟨R', A', hu, ha, g1, g2, g3, fun k h => h.elim⟩
theorem PX.keep {R R' : Nat → Prop} {A A' : Option Addr} {S : Nat → Prop} (hu : Upd S R R' w w') (ha : ∀ k, wr G A' k → wr G A k ∨ w.heap.size ≤ k) (hx : ∀ k, X k → k < w.heap.size ∧ w0.heap.size ≤ k ∧ ¬ R k ∧ ¬ wr G A k ∧ k ≠ M) : ∀ k, X k → k < w'.heap.size ∧ w0.heap.size ≤ k ∧ ¬ R' k ∧ ¬ wr G A' k ∧ k ≠ M := fun k hk => by
  obtain ⟨a1, a2, a3, a4, a5⟩ := hx k hk
  refine ⟨Nat.lt_of_lt_of_le a1 hu.far.size, a2, fun hR => ?_, fun hw => ?_, a5⟩
  · rcases hu.old k hR with h | h
    · exact a3 h
    · omega
  · rcases ha k hw with h | h
    · exact a4 h
    · omega
theorem PX.step_net {R : Nat → Prop} {A : Option Addr} (hu : Upd (UM G A0 M) R0 R w0 w) (ha : ∀ k, wr G A k → wr G A0 k ∨ w0.heap.size ≤ k) (h2 : RefAt w R M N cr br K) (h3 : ¬ wr G A M) (hx : ∀ k, X k → k < w.heap.size ∧ w0.heap.size ≤ k ∧ ¬ R k ∧ ¬ wr G A k ∧ k ≠ M)
    {R' : Nat → Prop} {A' : Option Addr} (hu' : Upd (wr G A) R R' w w') (ha' : ∀ k, wr G A' k → wr G A k ∨ w.heap.size ≤ k) :
    Upd (UM G A0 M) R0 R' w0 w' ∧ (∀ k, wr G A' k → wr G A0 k ∨ w0.heap.size ≤ k) ∧ RefAt w' R' M N cr br K ∧ ¬ wr G A' M ∧ ∀ k, X k → k < w'.heap.size ∧ w0.heap.size ≤ k ∧ ¬ R' k ∧ ¬ wr G A' k ∧ k ≠ M := by
  refine ⟨hu.trans hu' hu.off (fun _ h => h) (fun x hx hw => ?_), fun k hk => ?_, h2.upd hu' h3, fun hM => ?_, PX.keep hu' ha' hx⟩
  · rcases ha x hw with h | h
    · exact .inl h
    · omega
  · rcases ha' k hk with h | h
    · exact ha k h
    · exact .inr (Nat.le_trans hu.far.size h)
  · rcases ha' M hM with h | h
    · exact h3 h
    · have := h2.M_lt; omega
theorem PX.net (h : PX w0 R0 G A0 M N X w cn bn cr br K) {f : FuncId} {args : Array Value} {p : Ending → World → Prop} (C : ∀ R A, NetAt w R G A N cn bn → Calls Try.prog f args w fun e w' => p e w' ∧ Net1 w w' R G A N cn' bn') :
    Calls Try.prog f args w fun e w' => p e w' ∧ PX w0 R0 G A0 M N X w' cn' bn' cr br K ∧ ∃ S, Far S w w' ∧ ∀ k, X k → ¬ S k := by
  obtain ⟨R, A, hu, ha, h1, h2, h3, h4⟩ := h.ex
  refine (C R A h1).mono fun e w' hh => ⟨hh.1, ?_⟩
  obtain ⟨R', A', hu', hn', ha'⟩ := hh.2
  obtain ⟨g1, g2, g3, g4, g5⟩ := PX.step_net hu ha h2 h3 h4 hu' ha'
  exact ⟨⟨R', A', g1, g2, hn', g3, g4, g5⟩, _, hu'.far, fun k hk => (h4 k hk).2.2.2.1⟩
theorem PX.ref (h : PX w0 R0 G A0 M N X w cn bn cr br K) {f : FuncId} {args : Array Value} {p : Ending → World → (Nat → Prop) → Prop} (C : ∀ R, RefAt w R M N cr br K → Calls Try.prog f args w fun e w' => ∃ R', Upd (fun k => k = M) R R' w w' ∧ RefAt w' R' M N cr' br' K' ∧ p e w' R') :
    Calls Try.prog f args w fun e w' => (∃ R', p e w' R' ∧ ∀ k, X k → ¬ R' k) ∧ PX w0 R0 G A0 M N X w' cn bn cr' br' K' ∧ ∃ S, Far S w w' ∧ ∀ k, X k → ¬ S k := by
  obtain ⟨R, A, hu, ha, h1, h2, h3, h4⟩ := h.ex
  refine (C R h2).mono fun e w' ⟨R', hu', hr', hp⟩ => ⟨⟨R', hp, fun k hk => (PX.keep (A' := A) hu' (fun _ h => .inl h) h4 k hk).2.2.1⟩, ?_, _, hu'.far, fun k hk e => (h4 k hk).2.2.2.2 e⟩
  exact ⟨R', A, hu.trans hu' hu.off (fun _ h => h) (fun x _ hx => .inr hx), ha, h1.upd hu' fun k hk e => h3 (e ▸ hk), hr', h3, PX.keep hu' (fun _ h => .inl h) h4⟩
theorem PX.below (h : PX w0 R0 G A0 M N X w cn bn cr br K) (hb : Below w.heap.size w w') : PX w0 R0 G A0 M N X w' cn bn cr br K := by
  obtain ⟨R, A, hu, ha, h1, h2, h3, h4⟩ := h.ex
  exact ⟨R, A, hu.trans (Upd.of_below h1.lt hb) hu.off (fun _ h => h) (fun x _ hx => hx.elim), ha, h1.below hb, h2.below hb, h3, PX.keep (Upd.of_below h1.lt hb) (fun _ h => .inl h) h4⟩
theorem PX.fresh (h : PX w0 R0 G A0 M N X w cn bn cr br K) (hb : Below w.heap.size w w') {Y : Nat → Prop} (hY : ∀ k, Y k → w.heap.size ≤ k ∧ k < w'.heap.size) : PX w0 R0 G A0 M N (fun k => X k ∨ Y k) w' cn bn cr br K := by
  have h0 := h.below hb
  obtain ⟨R, A, hu, ha, h1, h2, h3, h4⟩ := h.ex
  refine ⟨R, A, hu.trans (Upd.of_below h1.lt hb) hu.off (fun _ h => h) (fun x _ hx => hx.elim), ha, h1.below hb, h2.below hb, h3, fun k hk => ?_⟩
  rcases hk with hk | hk
  · exact PX.keep (Upd.of_below h1.lt hb) (fun _ h => .inl h) h4 k hk
  · have := hY k hk
    have := hu.far.size
    exact ⟨by omega, by omega, fun hR => by have := h1.lt k hR; omega, fun hw => by have := h1.wr_lt hw; omega, fun e => by have := h2.M_lt; omega⟩
theorem PX.far (h : PX w0 R0 G A0 M N X w cn bn cr br K) (hf : Far X w w') : PX w0 R0 G A0 M N X w' cn bn cr br K := by
  obtain ⟨R, A, hu, ha, h1, h2, h3, h4⟩ := h.ex
  have hu' : Upd X R R w w' := ⟨hf, fun k hk => (h4 k hk).2.2.1, fun _ h => h, fun _ h => .inl h, fun k hk => Nat.lt_of_lt_of_le (h1.lt k hk) hf.size⟩
  exact ⟨R, A, ⟨hu.far.trans_new hf (fun x hx => (h4 x hx).2.1), hu.off, hu.up, hu.old, hu'.lt⟩, ha, h1.upd hu' fun k hk hX => (h4 k hX).2.2.2.1 hk, h2.upd hu' fun hX => (h4 M hX).2.2.2.2 rfl, h3, PX.keep hu' (fun _ h => .inl h) h4⟩
end

/-- As Net1, where nothing more lies still. -/
def Net0 (w w' : World) (R : Nat → Prop) (G : Nat) (A : Option Addr) (N : Int) (cut : Nat → Nat → Bool) (bag : List Msg) : Prop :=
  ∃ A', Upd (wr G A) R R w w' ∧ NetAt w' R G A' N cut bag ∧ ∀ k, wr G A' k → wr G A k ∨ w.heap.size ≤ k
theorem Net0.same {w w' : World} {R : Nat → Prop} {G : Nat} {A : Option Addr} {N : Int} {cut : Nat → Nat → Bool} {bag : List Msg} (h : NetAt w R G A N cut bag) (hb : Below w.heap.size w w') : Net0 w w' R G A N cut bag :=
  ⟨A, (Upd.of_below h.lt hb).widen (fun _ h => h.elim) h.off, h.below hb, fun _ hk => .inl hk⟩
section
variable {w0 w w' : World} {R0 : Nat → Prop} {G : Nat} {A0 : Option Addr} {M : Nat} {N : Int} {X : Nat → Prop} {cn cn' : Nat → Nat → Bool} {bn bn' : List Msg} {cr cr' : Nat → Nat → Bool} {br br' : List Msg} {K K' : Nat}
theorem PX.net0 (h : PX w0 R0 G A0 M N X w cn bn cr br K) {f : FuncId} {args : Array Value} {p : Ending → World → Prop} (C : ∀ R A, NetAt w R G A N cn bn → Calls Try.prog f args w fun e w' => p e w' ∧ Net0 w w' R G A N cn' bn') :
    Calls Try.prog f args w fun e w' => p e w' ∧ PX w0 R0 G A0 M N X w' cn' bn' cr br K ∧ (∃ S, Far S w w' ∧ ∀ k, X k → ¬ S k) ∧ ∀ m A' c', Own w' w.heap.size m A' c' → PX w0 R0 G A0 M N (fun k => X k ∨ (Value.slice A' m.bs.length c').ownBlock = some k) w' cn' bn' cr br K := by
  obtain ⟨R, A, hu, ha, h1, h2, h3, h4⟩ := h.ex
  refine (C R A h1).mono fun e w' hh => ⟨hh.1, ?_⟩
  obtain ⟨A', hu', hn', ha'⟩ := hh.2
  obtain ⟨g1, g2, g3, g4, g5⟩ := PX.step_net hu ha h2 h3 h4 hu' ha'
  refine ⟨⟨R, A', g1, g2, hn', g3, g4, g5⟩, ⟨_, hu'.far, fun k hk => (h4 k hk).2.2.2.1⟩, fun m Am cm ho => ⟨R, A', g1, g2, hn', g3, g4, fun k hk => ?_⟩⟩
  rcases hk with hk | hk
  · exact g5 k hk
  · have hlt := ho.row.lt k hk
    have := hu.far.size
    exact ⟨hlt.2, by omega, fun hR => by have := h1.lt k hR; omega, (hn'.not_wr ho.row (by decide) (by decide) hk).2, fun e => by have := h2.M_lt; omega⟩
end
theorem c_deliver0 {w : World} {R : Nat → Prop} {G : Nat} {A : Option Addr} {N : Int} {cut : Nat → Nat → Bool} {bag : List Msg} (h : NetAt w R G A N cut bag) (i : Int) : Calls Try.prog 12 #[gp G, .int .i64 i] w fun e w' => (∃ A' c', e = .returned (.tuple #[msgV (delP N cut bag i).1 A' c', .int .i64 (delP N cut bag i).2.1]) ∧ Own w' w.heap.size (delP N cut bag i).1 A' c') ∧ Net0 w w' R G A N cut (delP N cut bag i).2.2 := by
  obtain ⟨c, rs, h1, h2, h3⟩ := h.ex
  unfold delP
  have hlen := h.len
  cases ha : atP bag i with
  | none =>
    refine (deliver_none _ i w (noAt_net h1 (atP_has ha))).mono ?_
    rintro e w' ⟨rfl, hb⟩
    exact ⟨⟨none, 0, rfl, own_m0 _ _⟩, Net0.same h hb⟩
  | some m =>
    obtain ⟨k, rfl, hk, hkm⟩ := atP_some ha
    obtain ⟨rA, rc, hr, hrd, hle⟩ := h3.get hkm
    simp only []
    cases ho : openB N cut m.f m.t with
    | false =>
      refine (deliver_down G _ c k A N cut rs m.f m.t rA rc m.bs w h1 h3.1 (by unfold MR; rw [h3.1]; exact Reads.of_own h2) hr hrd.reads hle h.hi ho).mono ?_
      rintro e w' ⟨rfl, hb⟩
      exact ⟨⟨none, 0, rfl, own_m0 _ _⟩, Net0.same h hb⟩
    | true =>
      refine (deliver_yes G _ c k 0 A N cut rs m.f m.t rA rc m.bs w h1 h3.1 (by omega) h2 hr hrd.reads hle h.hi ho).mono ?_
      rintro e w' ⟨A', c', rfl, hc1, hc2, hown, hf, A2, c2, h5, h6⟩
      refine ⟨⟨A', c', rfl, ⟨hc1, hc2, hown⟩⟩, A2, ?_, ?_, ?_⟩
      · exact ⟨hf.mono fun _ e => .inl e, h.off, fun _ h => h, fun _ h => .inl h, fun k hk => Nat.lt_of_lt_of_le (h.lt k hk) hf.size⟩
      · have hu : Upd (fun x => x = G) R R w w' := ⟨hf, fun k e => h.off k (.inl e), fun _ h => h, fun _ h => .inl h, fun k hk => Nat.lt_of_lt_of_le (h.lt k hk) hf.size⟩
        have hlen2 : (bag.eraseIdx k).length = bag.length - 1 := by rw [List.length_eraseIdx, if_pos hk]
        refine ⟨⟨c2, rs.take k ++ rs.drop (k + 1), ?_, ?_, ?_⟩, h.lo, h.hi, ?_, fun x hx hR => ?_, hu.lt⟩
        · simp only [Int.toNat_natCast, if_true]; rw [hlen2]; exact h5
        · simp only [Int.toNat_natCast, if_true]; rw [hlen2]; exact own_low h6 (Nat.zero_le _)
        · simp only [Int.toNat_natCast, if_true]; exact (h3.erase k).upd hu
        · simp only [Int.toNat_natCast, if_true]; omega
        · rcases hx with rfl | ⟨ad, rfl, rfl⟩
          · exact h.off _ (.inl rfl) hR
          · have := (h6.lt ad.block rfl).1; have := h.lt _ hR; omega
      · rintro x (rfl | ⟨ad, rfl, rfl⟩)
        · exact .inl (.inl rfl)
        · exact .inr (h6.lt ad.block rfl).1

/-- A block of bytes that may be written. -/
def BB (w : World) (g n : Nat) : Prop := ∃ cur : Array Value, Blk w g 5 cur ∧ n ≤ cur.size ∧ ∀ j, j < n → ∃ v, cur[j]? = some (.int .u8 v)
theorem bb_own {w : World} {B n c : Nat} {g : Nat} {l : List Int} (h : w.ownsRow B 5 1 (.slice (some ⟨g, 0, none⟩) n c) n (l.map (.int .u8))) : BB w g n := by
  obtain ⟨q1, q2⟩ := h
  rcases q2 with ⟨q2, _⟩ | ⟨g', cap, cur, e, _, hg, hn, hm, hs, ht⟩
  · cases q2
  · cases e
    refine ⟨cur, hg, by omega, fun j hj => ?_⟩
    rw [Nat.mul_one] at ht
    have hl : l.length = n := by simpa using q1
    refine ⟨l[j]'(by omega), ?_⟩
    have h1 : (cur.toList.take n)[j]? = some (Value.int .u8 (l[j]'(by omega))) := by
      rw [ht, List.getElem?_map, List.getElem?_eq_getElem (by omega)]; rfl
    rw [List.getElem?_take_of_lt hj] at h1
    simpa using h1
theorem BB.get {w : World} {g n j : Nat} (h : BB w g n) (hj : j < n) : (∃ v, w.cell? ⟨g, j, none⟩ = some (.int .u8 v)) ∧ g < w.heap.size ∧ ∀ i, w.frozen? ⟨g, i, none⟩ = false := by
  obtain ⟨cur, hb, _, hc⟩ := h
  obtain ⟨v, hv⟩ := hc j hj
  exact ⟨⟨v, (hb.cell j).trans hv⟩, hb.lt, hb.frozen⟩
theorem BB.set {w : World} {g n j : Nat} (h : BB w g n) (hj : j < n) (v : Int) : BB (w.setCell ⟨g, j, none⟩ (.int .u8 v)) g n := by
  obtain ⟨cur, hb, hn, hc⟩ := h
  refine ⟨_, hb.set_ j (.int .u8 v), by simpa using hn, fun i hi => ?_⟩
  by_cases hij : j = i
  · subst hij
    exact ⟨v, by rw [Array.getElem?_setIfInBounds]; simp; omega⟩
  · obtain ⟨u, hu⟩ := hc i hi
    exact ⟨u, by rw [Array.getElem?_setIfInBounds_ne hij]; exact hu⟩
theorem BB.far {S : Nat → Prop} {w w' : World} {g n : Nat} (h : BB w g n) (hf : Far S w w') (hg : ¬ S g) : BB w' g n := by
  obtain ⟨cur, hb, hn, hc⟩ := h
  exact ⟨cur, hb.far_ hf hg, hn, hc⟩
theorem Own.farS {S : Nat → Prop} {w w' : World} {B : Nat} {m : Msg} {A : Option Addr} {c : Nat} (h : Own w B m A c) (hf : Far S w w') (hs : ∀ k, (Value.slice A m.bs.length c).ownBlock = some k → ¬ S k) : Own w' B m A c := ⟨h.hc, h.hm, own_far h.row hf hs⟩
end Go.Proofs.Ytfmflbcmigiciaa
