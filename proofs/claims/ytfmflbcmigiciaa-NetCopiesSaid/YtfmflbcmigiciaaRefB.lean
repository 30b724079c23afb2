/- Chapter 05: the document's net: At, a message out, Deliver, Drop, Find. -/
import Derived.Test.YtfmflbcmigiciaaRefA
namespace Go.Proofs.Ytfmflbcmigiciaa
open Go.RowKit

/-- What an act leaves of the document's net. -/
def Ref1 (w w' : World) (R : Nat → Prop) (M : Nat) (N : Int) (cut : Nat → Nat → Bool) (bag : List Msg) (K : Nat) : Prop :=
  ∃ R', Upd (fun k => k = M) R R' w w' ∧ RefAt w' R' M N cut bag K
theorem Ref1.same {w w' : World} {R : Nat → Prop} {M : Nat} {N : Int} {cut : Nat → Nat → Bool} {bag : List Msg} {K : Nat} (h : RefAt w R M N cut bag K) (hb : Below w.heap.size w w') : Ref1 w w' R M N cut bag K :=
  ⟨R, (Upd.of_below h.lt hb).widen (fun _ h => h.elim) (fun _ hk hR => h.off (hk ▸ hR)), h.below hb⟩
theorem Ref1.after {w w1 w' : World} {R : Nat → Prop} {M : Nat} {N : Int} {cut : Nat → Nat → Bool} {bag : List Msg} {K : Nat} (hb : Below w.heap.size w w1) (h : Ref1 w1 w' R M N cut bag K) : Ref1 w w' R M N cut bag K := by
  obtain ⟨R', hu, hr⟩ := h
  refine ⟨R', ⟨(Far.of_below hb).trans hu.far fun _ _ h => h, hu.off, hu.up, fun k hk => ?_, hu.lt⟩, hr⟩
  rcases hu.old k hk with h1 | h1
  · exact .inl h1
  · exact .inr (Nat.le_trans hb.size h1)
theorem Ref1.then_ {w w1 w' : World} {R : Nat → Prop} {M : Nat} {N : Int} {cut : Nat → Nat → Bool} {bag : List Msg} {K : Nat} (h : Ref1 w w1 R M N cut bag K) (hb : Below w1.heap.size w1 w') : Ref1 w w' R M N cut bag K := by
  obtain ⟨R', hu, hr⟩ := h
  exact ⟨R', ⟨hu.far.trans (Far.of_below (S := fun k => k = M) hb) fun _ _ h => h, hu.off, hu.up, hu.old, fun k hk => Nat.lt_of_lt_of_le (hu.lt k hk) hb.size⟩, hr.below hb⟩
theorem ref_setbag {w w1 : World} {R : Nat → Prop} {M : Nat} {N : Int} {cut : Nat → Nat → Bool} {bag bag' : List Msg} {K : Nat} (h : RefAt w R M N cut bag K) (hb : Below w.heap.size w w1) {rs : List Raw} {Y : Nat → Prop} (hY : ∀ k, Y k → w.heap.size ≤ k ∧ k < w1.heap.size) {A9 : Option Addr} {c9 : Nat}
    (hms : MsgsAt (fun k => R k ∨ Y k) w1 rs bag') (ho : w1.ownsRow w.heap.size 33 3 (.slice A9 bag'.length c9) bag'.length (rs.flatMap Raw.cs)) (hle : bag'.length ≤ 64) :
    Ref1 w (w1.setCell ⟨M, 1, none⟩ (.slice A9 bag'.length c9)) R M N cut bag' K := by
  have hM := h.M_lt
  obtain ⟨Ab, cb, Ac, cc, rs0, cl, h1, h2, h3, h4, h5, h6, h7⟩ := h.ex
  have hXlo : ∀ k, ((Value.slice A9 bag'.length c9).ownBlock = some k ∨ Y k) → w.heap.size ≤ k ∧ k < w1.heap.size := fun k hk => hk.elim (fun e => ho.lt k e) (hY k)
  have hu1 : Upd (fun _ => False) R (fun k => R k ∨ ((Value.slice A9 bag'.length c9).ownBlock = some k ∨ Y k)) w w1 := (Upd.of_below h.lt hb).more _ (fun k hk => (hXlo k hk).1) (fun k hk => (hXlo k hk).2)
  have hoff : ¬ (R M ∨ ((Value.slice A9 bag'.length c9).ownBlock = some M ∨ Y M)) := fun hh => hh.elim h.off fun hx => by have := (hXlo M hx).1; omega
  have hf2 : Far (fun k => k = M) w1 (w1.setCell ⟨M, 1, none⟩ (.slice A9 bag'.length c9)) := (Far.refl (fun k => k = M) _).setCell (p := ⟨M, 1, none⟩) (.inl rfl) _
  have hu2 : Upd (fun k => k = M) (fun k => R k ∨ ((Value.slice A9 bag'.length c9).ownBlock = some k ∨ Y k)) (fun k => R k ∨ ((Value.slice A9 bag'.length c9).ownBlock = some k ∨ Y k)) w1 (w1.setCell ⟨M, 1, none⟩ (.slice A9 bag'.length c9)) :=
    ⟨hf2, fun k e hR => hoff (e ▸ hR), fun _ h => h, fun _ h => .inl h, fun k hk => Nat.lt_of_lt_of_le (hu1.lt k hk) hf2.size⟩
  have hB1 := h1.below hb hM
  obtain ⟨A0, c0, hv, hc1, hc2⟩ := own_form ho
  cases hv
  refine ⟨_, ⟨(Far.of_below hb).trans hf2 fun _ _ h => h, fun k e hR => h.off (e ▸ hR), hu1.up, hu1.old, hu2.lt⟩, ⟨A9, c9, Ac, cc, rs, cl, ?_, (rd_own ho fun k hk => .inr (.inl hk)).upd hu2, (hms.moreR fun k hk => hk.elim .inl fun hy => .inr (.inr hy)).upd hu2, (h4.upd hu1).upd hu2, h5, h6, hc1, hc2⟩, h.lo, h.hi, hle, hoff, hu2.lt⟩
  have := hB1.set_ 1 (.slice A9 bag'.length c9)
  simpa using this

set_option maxHeartbeats 1000000 in
theorem rat_any {w : World} {R : Nat → Prop} {M : Nat} {N : Int} {cut : Nat → Nat → Bool} {bag : List Msg} {K : Nat} (h : RefAt w R M N cut bag K) (i : Int) :
    Calls Try.prog 37 #[.pointer (some ⟨M, 0, none⟩), .int .i64 i] w fun e w' => ∃ A' c', e = .returned (.tuple #[msgV (atR bag i).1 A' c', .int .i64 (atR bag i).2]) ∧ Below w.heap.size w w' ∧ RD R w 1 A' (atR bag i).1.bs.length ((atR bag i).1.bs.map (.int .u8)) := by
  obtain ⟨Ab, cb, Ac, cc, rs, cl, h1, h2, h3, h4, h5, h6, h7⟩ := h.ex
  unfold atR
  have m1 := h1.cell 1
  have ml := h1.lt
  have HB := Lib.hid ((Below.refl w.heap.size w).alloc (Nat.le_refl _) (.cells #[.int .i64 0, .int .i64 0, .slice none 0 0] 33))
  have hr0 : RD R w 1 none (m0.bs).length (m0.bs.map (.int .u8)) := ⟨Reads.none_, fun h => by simp [m0] at h⟩
  cases ha : atP bag i with
  | none =>
    have hno := atP_has ha
    have HR0 := Lib.hid hr0
    by_cases hi : i < 0
    · clear h h1 h2 h3 h4 h5 h6 h7 ha hno hr0
      go_enter Try.func37, Try.ntmps37
      go_wp2_with fail
      refine bodyPost_ret (v := .tuple #[msgV m0 none 0, .int .i64 4]) (by simp [results, Try.results37, go_sem, msgV, m0]) rfl ?_
      first | exact ⟨none, 0, rfl, HB.out, HR0.out⟩ | exact ⟨none, ⟨0, rfl⟩, HB.out, HR0.out⟩ | exact ⟨none, ⟨0, rfl⟩, HB.out, HR0.out.1⟩
    · have hge : (bag.length : Int) ≤ i := Int.not_lt.1 fun hlt => by
        have := of_decide_eq_false hno
        exact this ⟨by omega, hlt⟩
      have d1 : decide (i < 0) = false := decide_eq_false hi
      have d2 : decide ((bag.length : Int) ≤ i) = true := decide_eq_true hge
      clear h h1 h2 h3 h4 h5 h6 h7 ha hno hr0
      go_enter Try.func37, Try.ntmps37
      go_wp2_with fail
      refine bodyPost_ret (v := .tuple #[msgV m0 none 0, .int .i64 4]) (by simp [results, Try.results37, go_sem, msgV, m0]) rfl ?_
      first | exact ⟨none, 0, rfl, HB.out, HR0.out⟩ | exact ⟨none, ⟨0, rfl⟩, HB.out, HR0.out⟩ | exact ⟨none, ⟨0, rfl⟩, HB.out, HR0.out.1⟩
  | some m =>
    obtain ⟨k, rfl, hk, hkm⟩ := atP_some ha
    obtain ⟨rA, rc, hr, hrd, hle⟩ := h3.get hkm
    have hmr : MR w w.heap.size Ab rs := by unfold MR; rw [h3.1]; exact h2.1
    obtain ⟨b, o, f', t', rA', n', c', rfl, hBb, hr', y0, y1, y2⟩ := raw_elem hmr (show k < rs.length by rw [h3.1]; exact hk)
    rw [hr] at hr'
    cases hr'
    have d1 : decide ((k : Int) < 0) = false := decide_eq_false (by omega)
    have d2 : decide ((bag.length : Int) ≤ k) = false := decide_eq_false (by omega)
    have d3 : decide (bag.length ≤ k) = false := decide_eq_false (by omega)
    have HRD := Lib.hid hrd
    clear h h1 h2 h3 h4 h5 h6 h7 ha hr0 hmr hr hrd hle hkm
    go_enter Try.func37, Try.ntmps37
    go_wp2_with fail
    refine bodyPost_ret (v := .tuple #[msgV m rA rc, .int .i64 0]) (by simp [results, Try.results37, go_sem, msgV]) rfl ⟨rA, rc, rfl, ?_, HRD.out⟩
    first | exact (Below.refl _ _).alloc (Nat.le_refl _) _ | exact ((HB.out.setCell (p := ⟨w.heap.size, 0, none⟩) (Nat.le_refl _) _).setCell (p := ⟨w.heap.size, 1, none⟩) (Nat.le_refl _) _).setCell (p := ⟨w.heap.size, 2, none⟩) (Nat.le_refl _) _
end Go.Proofs.Ytfmflbcmigiciaa
