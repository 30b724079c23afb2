/- Chapter 05: the document's net: Drop, Deliver, Find. -/
import Derived.Test.YtfmflbcmigiciaaRefC
namespace Go.Proofs.Ytfmflbcmigiciaa
open Go.RowKit

theorem atR_none {bag : List Msg} {i : Int} (h : atP bag i = none) : atR bag i = (m0, 4) := by unfold atR; rw [h]
theorem atR_some {bag : List Msg} {i : Int} {m : Msg} (h : atP bag i = some m) : atR bag i = (m, 0) := by unfold atR; rw [h]

set_option maxHeartbeats 1000000 in
theorem rdrop_any {w : World} {R : Nat → Prop} {M : Nat} {N : Int} {cut : Nat → Nat → Bool} {bag : List Msg} {K : Nat} (h : RefAt w R M N cut bag K) (i : Int) :
    Calls Try.prog 39 #[.pointer (some ⟨M, 0, none⟩), .int .i64 i] w fun e w' => e = .returned (.int .i64 (dropP bag i).1) ∧ Ref1 w w' R M N cut (dropP bag i).2 K := by
  have C := rat_any h i
  have HH := Lib.hid h
  unfold dropP
  cases ha : atP bag i with
  | none =>
    rw [atR_none ha] at C
    have CC := Lib.hid C
    clear C ha h
    go_enter Try.func39, Try.ntmps39
    go_wp2_with fail
    refine CC.out.mono ?_
    rintro e w1 ⟨A', c', rfl, hb, -⟩
    have HF := Lib.hid (Ref1.same HH.out (hb.alloc hb.size (.cells #[.int .i64 m0.f, .int .i64 m0.t, .slice A' m0.bs.length c'] 33)))
    unfold msgV
    clear hb CC
    go_wp2_with fail
    go_ret
    exact ⟨rfl, HF.out⟩
  | some m =>
    rw [atR_some ha] at C
    have CC := Lib.hid C
    obtain ⟨k, rfl, hk, hkm⟩ := atP_some ha
    clear C ha h hkm
    go_enter Try.func39, Try.ntmps39
    go_wp2_with fail
    refine CC.out.mono ?_
    rintro e w1 ⟨A', c', rfl, hb, -⟩
    have hb2 := hb.alloc hb.size (.cells #[.int .i64 m.f, .int .i64 m.t, .slice A' m.bs.length c'] 33)
    have D := Lib.hid (rout_any (HH.out.below hb2) k hk)
    have HB := Lib.hid hb2
    unfold msgV
    clear hb CC hb2
    go_wp2_with fail
    refine D.out.mono ?_
    rintro e w2 ⟨⟨v, rfl⟩, hr⟩
    have HF := Lib.hid (Ref1.after HB.out hr)
    clear hr D
    go_wp2_with fail
    go_ret
    exact ⟨rfl, by simpa using HF.out⟩

/-- What a delivery leaves: the net, and the message's bytes, which lie still. -/
def RefM (w w' : World) (R : Nat → Prop) (M : Nat) (N : Int) (cut : Nat → Nat → Bool) (bag : List Msg) (K : Nat) (A : Option Addr) (bs : List Int) : Prop :=
  ∃ R', Upd (fun k => k = M) R R' w w' ∧ RefAt w' R' M N cut bag K ∧ RD R' w' 1 A bs.length (bs.map (.int .u8))
theorem rd_m0 (R : Nat → Prop) (w : World) (A : Option Addr) : RD R w 1 A (m0.bs).length (m0.bs.map (.int .u8)) := ⟨⟨rfl, fun h => by simp [m0] at h⟩, fun h => by simp [m0] at h⟩
theorem RefM.same {w w' : World} {R : Nat → Prop} {M : Nat} {N : Int} {cut : Nat → Nat → Bool} {bag : List Msg} {K : Nat} {A : Option Addr} (h : RefAt w R M N cut bag K) (hb : Below w.heap.size w w') : RefM w w' R M N cut bag K A m0.bs := by
  obtain ⟨R', h1, h2⟩ := Ref1.same h hb
  exact ⟨R', h1, h2, rd_m0 _ _ _⟩
theorem Far.trans_new {S T : Nat → Prop} {a b c : World} (h : Far S a b) (k : Far T b c) (ht : ∀ x, T x → a.heap.size ≤ x) : Far S a c := h.trans k fun x hx hT => by have := ht x hT; omega

set_option maxHeartbeats 2000000 in
theorem rdeliver_any {w : World} {R : Nat → Prop} {M : Nat} {N : Int} {cut : Nat → Nat → Bool} {bag : List Msg} {K : Nat} (h : RefAt w R M N cut bag K) (hK : K ≤ 1000000) (i : Int) :
    Calls Try.prog 38 #[.pointer (some ⟨M, 0, none⟩), .int .i64 i] w fun e w' => ∃ A' c', e = .returned (.tuple #[msgV (delP N cut bag i).1 A' c', .int .i64 (delP N cut bag i).2.1]) ∧ RefM w w' R M N cut (delP N cut bag i).2.2 K A' (delP N cut bag i).1.bs := by
  obtain ⟨W0, hW0⟩ : ∃ W0, W0 = w.alloc (.cells #[.int .i64 0, .int .i64 0, .slice none 0 0] 33) := ⟨_, rfl⟩
  have hb0 : Below w.heap.size w W0 := by rw [hW0]; exact (Below.refl _ _).alloc (Nat.le_refl _) _
  have hR : Blk W0 w.heap.size 33 #[.int .i64 0, .int .i64 0, .slice none 0 0] := by rw [hW0]; exact Blk.new _ _ _
  have hrl := hR.lt
  have hMlt := h.M_lt
  have h0 := h.below hb0
  have C := rat_any h0 i
  have HH0 := Lib.hid h0
  have HH := Lib.hid h
  have HR := Lib.hid hR
  unfold delP
  cases ha : atP bag i with
  | none =>
    rw [atR_none ha] at C
    have CC := Lib.hid C
    clear C ha h h0 hR
    go_enter Try.func38, Try.ntmps38
    go_wp2_with fail
    rw [← hW0]
    clear hW0
    refine CC.out.mono ?_
    rintro e w1 ⟨A', c', rfl, hb, hrd⟩
    have hR1 := HR.out.below hb hrl
    obtain ⟨r0, r1, r2⟩ := blk_cell3 hR1
    have rf := hR1.frozen
    have rl := hR1.lt
    have hb01 := hb0.trans (hb.mono hb0.size)
    have HB := Lib.hid hb01
    unfold msgV m0
    clear hb CC hR1 hb01 hrd
    go_wp2_with fail
    refine bodyPost_ret (v := .tuple #[msgV m0 A' c', .int .i64 4]) (by simp [results, Try.results38, go_sem, msgV, m0, r0, r1, r2, rl]) rfl ?_
    have hbf := (((HB.out.setCell (p := ⟨w.heap.size, 0, none⟩) (Nat.le_refl _) (.int .i64 0)).setCell (p := ⟨w.heap.size, 1, none⟩) (Nat.le_refl _) (.int .i64 0)).setCell (p := ⟨w.heap.size, 2, none⟩) (Nat.le_refl _) (.slice A' 0 c')).alloc (by simp only [size_setCell]; exact HB.out.size) (.cells #[.int .i64 0, .int .i64 0, .slice A' 0 c'] 33)
    first
      | exact ⟨A', c', rfl, RefM.same HH.out hbf⟩
      | exact ⟨A', ⟨c', rfl⟩, RefM.same HH.out hbf⟩
  | some m =>
    rw [atR_some ha] at C
    simp only [] at C ⊢
    have CC := Lib.hid C
    obtain ⟨k, rfl, hk, hkm⟩ := atP_some ha
    simp only [Int.toNat_natCast]
    cases hop : openB N cut m.f m.t with
    | false =>
      simp only [Bool.false_eq_true, if_false]
      have HOP := Lib.hid hop
      clear hop
      clear C ha h h0 hR hkm
      go_enter Try.func38, Try.ntmps38
      go_wp2_with fail
      rw [← hW0]
      clear hW0
      refine CC.out.mono ?_
      rintro e w1 ⟨A', c', rfl, hb, hrd⟩
      have HRD := Lib.hid hrd
      unfold msgV
      clear hrd CC
      obtain ⟨W2, hW2⟩ : ∃ W2, W2 = w1.alloc (.cells #[.int .i64 m.f, .int .i64 m.t, .slice A' m.bs.length c'] 33) := ⟨_, rfl⟩
      have hb12 : Below w1.heap.size w1 W2 := by rw [hW2]; exact (Below.refl _ _).alloc (Nat.le_refl _) _
      have hM2 : Blk W2 w1.heap.size 33 #[.int .i64 m.f, .int .i64 m.t, .slice A' m.bs.length c'] := by rw [hW2]; exact Blk.new _ _ _
      have hb02 : Below W0.heap.size W0 W2 := hb.trans (hb12.mono hb.size)
      have HB02 := Lib.hid hb02
      have O := Lib.hid (ropen_any (HH0.out.below hb02) hK m.f m.t)
      rw [HOP.out] at O
      have HM2 := Lib.hid hM2
      have hs1 := hb.size
      clear hb hb12 hM2 hb02
      go_wp2_with fail
      rw [← hW2]
      clear hW2
      refine O.out.mono ?_
      rintro e w3 ⟨rfl, hb3⟩
      have hb03 : Below W0.heap.size W0 w3 := HB02.out.trans (hb3.mono HB02.out.size)
      have HM3 := Lib.hid (HM2.out.below hb3 HM2.out.lt)
      have HB03 := Lib.hid hb03
      clear hb3 O HM2 HB02
      have hR3 := HR.out.below hb03 hrl
      obtain ⟨r0, r1, r2⟩ := blk_cell3 hR3
      have rf := hR3.frozen
      have rl := hR3.lt
      clear hR3 hb03
      go_wp2_with fail
      refine bodyPost_ret (v := .tuple #[msgV m0 none 0, .int .i64 6]) (by simp [results, Try.results38, go_sem, msgV, m0, r0, r1, r2]) rfl ?_
      have hb := hb0.trans (HB03.out.mono hb0.size)
      have hbf := (((hb.setCell (p := ⟨w.heap.size, 0, none⟩) (Nat.le_refl _) (.int .i64 0)).setCell (p := ⟨w.heap.size, 1, none⟩) (Nat.le_refl _) (.int .i64 0)).setCell (p := ⟨w.heap.size, 2, none⟩) (Nat.le_refl _) (.slice none 0 0))
      first
        | exact ⟨none, 0, rfl, RefM.same HH.out hbf⟩
        | exact ⟨none, ⟨0, rfl⟩, RefM.same HH.out hbf⟩
    | true =>
      simp only [if_true]
      have HOP := Lib.hid hop
      clear hop
      clear C ha h h0 hR hkm
      go_enter Try.func38, Try.ntmps38
      go_wp2_with fail
      rw [← hW0]
      clear hW0
      refine CC.out.mono ?_
      rintro e w1 ⟨A', c', rfl, hb, hrd⟩
      have HRD := Lib.hid hrd
      unfold msgV
      clear hrd CC
      obtain ⟨W2, hW2⟩ : ∃ W2, W2 = w1.alloc (.cells #[.int .i64 m.f, .int .i64 m.t, .slice A' m.bs.length c'] 33) := ⟨_, rfl⟩
      have hb12 : Below w1.heap.size w1 W2 := by rw [hW2]; exact (Below.refl _ _).alloc (Nat.le_refl _) _
      have hM2 : Blk W2 w1.heap.size 33 #[.int .i64 m.f, .int .i64 m.t, .slice A' m.bs.length c'] := by rw [hW2]; exact Blk.new _ _ _
      have hb02 : Below W0.heap.size W0 W2 := hb.trans (hb12.mono hb.size)
      have HB02 := Lib.hid hb02
      have O := Lib.hid (ropen_any (HH0.out.below hb02) hK m.f m.t)
      rw [HOP.out] at O
      have HM2 := Lib.hid hM2
      have hs1 := hb.size
      clear hb hb12 hM2 hb02
      go_wp2_with fail
      rw [← hW2]
      clear hW2
      refine O.out.mono ?_
      rintro e w3 ⟨rfl, hb3⟩
      have hb03 : Below W0.heap.size W0 w3 := HB02.out.trans (hb3.mono HB02.out.size)
      have HM3 := Lib.hid (HM2.out.below hb3 HM2.out.lt)
      have HB03 := Lib.hid hb03
      clear hb3 O HM2 HB02
      have D := Lib.hid (rout_any (HH0.out.below hb03) k hk)
      clear hb03
      go_wp2_with fail
      refine D.out.mono ?_
      rintro e w4 ⟨⟨v, rfl⟩, hr⟩
      obtain ⟨R4, hu4, hr4⟩ := hr
      have hmw : w1.heap.size < w3.heap.size := HM3.out.lt
      have hs3 := HB03.out.size
      have hR4 := (HR.out.below HB03.out hrl).far_ hu4.far (show ¬ w.heap.size = M by omega)
      have hM4 := HM3.out.far_ hu4.far (show ¬ w1.heap.size = M by omega)
      obtain ⟨r0, r1, r2⟩ := blk_cell3 hR4
      obtain ⟨q0, q1, q2⟩ := blk_cell3 hM4
      have rf := hR4.frozen
      have rl := hR4.lt
      have ql := hM4.lt
      have hwr : ¬ R4 w.heap.size := fun hR => by
        rcases hu4.old _ hR with h1 | h1
        · have := HH.out.lt _ h1; omega
        · omega
      have HWR := Lib.hid hwr
      have HU := Lib.hid hu4
      have HR4 := Lib.hid hr4
      have hne : M ≠ w.heap.size := by omega
      clear hR4 hM4 hu4 hr4 D hwr
      go_wp2_with fail
      refine bodyPost_ret (v := .tuple #[msgV m A' c', .int .i64 0]) (by simp [results, Try.results38, go_sem, msgV, r0, r1, r2]) rfl ?_
      have F := (((Far.refl (fun k => k = w.heap.size) w4).setCell (p := ⟨w.heap.size, 0, none⟩) (.inl rfl) (.int .i64 m.f)).setCell (p := ⟨w.heap.size, 1, none⟩) (.inl rfl) (.int .i64 m.t)).setCell (p := ⟨w.heap.size, 2, none⟩) (.inl rfl) (.slice A' m.bs.length c')
      have hu5 : Upd (fun k => k = w.heap.size) R4 R4 w4 _ := ⟨F, fun k e hR => HWR.out (e ▸ hR), fun _ h => h, fun _ h => .inl h, fun k hk => Nat.lt_of_lt_of_le (HU.out.lt k hk) F.size⟩
      have hr5 := HR4.out.upd hu5 hne
      have hb03' := hb0.trans (HB03.out.mono hb0.size)
      have hrd := ((HRD.out.upd (Upd.of_below HH0.out.lt HB03.out)).upd HU.out).upd hu5
      have hf1 : RefM w _ R M N cut (bag.eraseIdx k) K A' m.bs := ⟨R4, ⟨((Far.of_below (S := fun k => k = M) hb03').trans HU.out.far fun _ _ h => h).trans_new F (fun k hk => by rw [hk]; exact Nat.le_refl _), HU.out.off, HU.out.up, fun k hk => (HU.out.old k hk).elim .inl fun h1 => .inr (by omega), fun k hk => Nat.lt_of_lt_of_le (HU.out.lt k hk) F.size⟩, hr5, hrd⟩
      first
        | exact ⟨A', c', rfl, hf1⟩
        | exact ⟨A', ⟨c', rfl⟩, hf1⟩
end Go.Proofs.Ytfmflbcmigiciaa
