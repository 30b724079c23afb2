/- Chapter 05: a net of the call's own, act by act; strings of bytes; two messages that are the same. -/
import Derived.Test.YtfmflbcmigiciaaDbl
import Derived.Laws.BytesArg
namespace Go.Proofs.Ytfmflbcmigiciaa
open Go.RowKit

structure Mine (w0 w : World) (R : Nat → Prop) (G : Nat) (A : Option Addr) (N : Int) (cut : Nat → Nat → Bool) (bag : List Msg) : Prop where
  net : NetAt w R G A N cut bag
  below : Below w0.heap.size w0 w
  low : ∀ k, wr G A k → w0.heap.size ≤ k
variable {w0 w w' : World} {R : Nat → Prop} {G : Nat} {A : Option Addr} {N : Int} {cut cut' : Nat → Nat → Bool} {bag bag' : List Msg}
theorem RD.moreR {R R' : Nat → Prop} {w : World} {s n : Nat} {A : Option Addr} {xs : List Value} (h : RD R w s A n xs) (hr : ∀ k, R k → R' k) : RD R' w s A n xs := ⟨h.1, fun hn ad e => hr _ (h.2 hn ad e)⟩
theorem Mine.next (h : Mine w0 w R G A N cut bag) (hn : Net1 w w' R G A N cut' bag') : ∃ R' A', Mine w0 w' R' G A' N cut' bag' ∧ Upd (wr G A) R R' w w' ∧ ∀ k, wr G A' k → wr G A k ∨ w.heap.size ≤ k := by
  obtain ⟨R', A', hu, hn', ha⟩ := hn
  refine ⟨R', A', ⟨hn', h.below.trans (hu.far.below h.low (h.below.size)), fun k hk => ?_⟩, hu, ha⟩
  rcases ha k hk with h1 | h1
  · exact h.low k h1
  · exact Nat.le_trans h.below.size h1
theorem Mine.under (h : Mine w0 w R G A N cut bag) (hb : Below w.heap.size w w') : Mine w0 w' R G A N cut bag ∧ Upd (fun _ => False) R R w w' :=
  ⟨⟨h.net.below hb, h.below.trans (hb.mono h.below.size), h.low⟩, Upd.of_below h.net.lt hb⟩
theorem NetAt.moreR (h : NetAt w R G A N cut bag) {X : Nat → Prop} (hX : ∀ k, X k → k < w.heap.size ∧ ¬ wr G A k) : NetAt w (fun k => R k ∨ X k) G A N cut bag := by
  obtain ⟨c, rs, h1, h2, h3⟩ := h.ex
  refine ⟨⟨c, rs, h1, h2, h3.1, fun k r m e1 e2 => ?_⟩, h.lo, h.hi, h.len, fun k hk hR => ?_, fun k hR => ?_⟩
  · have := h3.2 k r m e1 e2
    exact ⟨this.f, this.t, this.n, this.le, this.rd.moreR fun k => .inl⟩
  · rcases hR with hR | hR
    · exact h.off k hk hR
    · exact (hX k hR).2 hk
  · rcases hR with hR | hR
    · exact h.lt k hR
    · exact (hX k hR).1
theorem Mine.moreR (h : Mine w0 w R G A N cut bag) {X : Nat → Prop} (hX : ∀ k, X k → k < w.heap.size ∧ ¬ wr G A k) : Mine w0 w (fun k => R k ∨ X k) G A N cut bag := ⟨h.net.moreR hX, h.below, h.low⟩
/-- A row of another type is none of the net's. -/
theorem NetAt.not_wr (h : NetAt w R G A N cut bag) {B : Nat} {e : TypeId} {s n : Nat} {v : Value} {xs : List Value} (ho : w.ownsRow B e s v n xs) (h1 : e ≠ 56) (h2 : e ≠ 33) {k : Nat} (hk : v.ownBlock = some k) : k < w.heap.size ∧ ¬ wr G A k := by
  refine ⟨(ho.lt k hk).2, ?_⟩
  obtain ⟨c, rs, g1, g2, g3⟩ := h.ex
  rintro (rfl | ⟨ad, rfl, rfl⟩)
  · exact own_blk_ne ho g1 h1 hk
  · exact own_own_ne ho g2 h2 hk rfl
theorem c_new (N : Int) (w : World) (R : Nat → Prop) (hR : ∀ k, R k → k < w.heap.size) (h1 : 1 ≤ N) (h2 : N ≤ 15) : Calls Try.prog 9 #[.int .i64 N] w fun e w' => e = .returned (.tuple #[gp w.heap.size, .int .i64 0]) ∧ Mine w w' R w.heap.size none N (fun _ _ => false) [] ∧ Below w.heap.size w w' ∧ w.heap.size < w'.heap.size := by
  refine (new_yes N w h1 h2).mono ?_
  rintro e w' ⟨rfl, rfl⟩
  have hb := (Below.refl w.heap.size w).alloc (Nat.le_refl _) (.cells (netC N) 56)
  refine ⟨rfl, ⟨⟨⟨0, [], ?_, ⟨rfl, .inl ⟨rfl, rfl⟩⟩, MsgsAt.nil⟩, h1, h2, by simp, fun k hk hr => ?_, fun k hk => Nat.lt_of_lt_of_le (hR k hk) hb.size⟩, hb, fun k hk => ?_⟩, hb, by simp⟩
  · have h5 := Blk.new w 56 (netC N); rw [netC_eq] at h5; rw [netC_eq]; exact h5
  · rcases hk with rfl | ⟨ad, h, _⟩
    · have := hR _ hr; omega
    · cases h
  · rcases hk with rfl | ⟨ad, h, _⟩
    · exact Nat.le_refl _
    · cases h

/-- Bytes as a string. -/
theorem conv_str {B : Nat} {l : List Int} {Ab : Option Addr} (h : BR w B Ab l) (c : Nat) : (convert 24 9 (.slice Ab l.length c)).run Try.prog w = .ok (.string (strOfNums l)) w := by
  rcases Ab with _ | ad
  · have h0 : l = [] := by
      rcases Nat.eq_zero_or_pos l.length with h0 | h0
      · exact List.eq_nil_of_length_eq_zero h0
      · obtain ⟨ad, h, _⟩ := h.2 h0
        cases h
    subst h0
    exact run_convert_bytes_nil w 24 5 Try.underlying24 (by kernel_rfl) _ _ 9 (by kernel_rfl)
  · by_cases h0 : l.length = 0
    · have h0 : l = [] := List.eq_nil_of_length_eq_zero h0
      subst h0
      obtain ⟨b, o, s⟩ := ad
      rw [run_convert_bytes_string w 24 9 5 _ _ _ Try.underlying24 (by kernel_rfl) (by kernel_rfl), run_bytesToString w _ _ _ [] (by exact run_loadCells_list w _ [] (fun j v hj => by cases hj))]
      rfl
    · obtain ⟨b, o, hA, _, hc⟩ := h.lit (by simp; omega)
      cases hA
      exact run_convert_bytes_arg w 24 5 Try.underlying24 (by kernel_rfl) b o _ c l rfl (fun i hi => by
        rw [hc i (.int .u8 (l.getD i 0)) (by rw [List.getElem?_map, List.getElem?_eq_getElem hi, List.getD_eq_getElem?_getD, List.getElem?_eq_getElem hi]; rfl)]) 9 (by kernel_rfl)
end Go.Proofs.Ytfmflbcmigiciaa
