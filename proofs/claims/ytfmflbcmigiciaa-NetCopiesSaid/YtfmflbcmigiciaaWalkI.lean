/- Chapter 05: a message taken out of the bag. -/
import Derived.Test.YtfmflbcmigiciaaWalkH
namespace Go.Proofs.Ytfmflbcmigiciaa
open Go.RowKit

set_option maxHeartbeats 1000000 in
theorem take_any (G n c k base : Nat) (A : Option Addr) (N : Int) (cut : Nat → Nat → Bool) (rs : List Raw) (w : World) (h : Blk w G 56 (netA (.slice A n c) 64 N cut)) (hrs : rs.length = n) (hn : n ≤ 1000) (hk : k < n) (ho : w.ownsRow base 33 3 (.slice A n c) n (rs.flatMap Raw.cs)) :
    Calls Try.prog 30 #[.pointer (some ⟨G, 0, none⟩), .int .i64 k] w fun e w' => (∃ v, e = .returned v) ∧ Far (fun x => x = G) w w' ∧ ∃ A' c', Blk w' G 56 (netA (.slice A' (n - 1) c') 64 N cut) ∧ w'.ownsRow w.heap.size 33 3 (.slice A' (n - 1) c') (n - 1) ((rs.take k ++ rs.drop (k + 1)).flatMap Raw.cs) := by
  subst hrs
  have g0 := (h.cell 0).trans (netA_lo _ _ _ _).1
  have gl := h.lt
  have hm : MR w w.heap.size A rs := Reads.of_own ho
  have HM := Lib.hid hm
  have HG := Lib.hid h
  obtain ⟨b, o, f, t, rA, n', c', rfl, hBb, hr, y0, y1, y2⟩ := raw_elem hm hk
  clear h ho hm hr
  go_enter Try.func30, Try.ntmps30
  go_wp2_with fail
  obtain ⟨W0, hW0⟩ : ∃ W0, W0 = (w.alloc (.cells #[.int .i64 0, .int .i64 0, .slice none 0 0] 33)).alloc (.cells #[.int .i64 f, .int .i64 t, .slice rA n' c'] 33) := ⟨_, rfl⟩
  rw [← hW0]
  have hb0 : Below w.heap.size w W0 := by rw [hW0]; exact ((Below.refl _ _).alloc (Nat.le_refl _) _).alloc (by simp) _
  have hs0 : W0.heap.size = w.heap.size + 1 + 1 := by rw [hW0]; simp
  have hR : Blk W0 w.heap.size 33 #[.int .i64 0, .int .i64 0, .slice none 0 0] := by rw [hW0]; exact (Blk.new _ _ _).alloc _
  have hM : Blk W0 (w.heap.size + 1) 33 #[.int .i64 f, .int .i64 t, .slice rA n' c'] := by
    rw [hW0]
    have h1 := Blk.new (w.alloc (.cells #[.int .i64 0, .int .i64 0, .slice none 0 0] 33)) 33 #[.int .i64 f, .int .i64 t, .slice rA n' c']
    rwa [World.size_alloc] at h1
  have hG0 := HG.out.below hb0 gl
  clear hW0
  refine (mclone_any rs (some ⟨b, o, none⟩) c W0.heap.size W0 ((HM.out.below hb0).more hb0.size) (Nat.le_refl _) (by omega)).mono ?_
  rintro e w1 ⟨A1, c1, rfl, hb1, hc1, hc2, ho1⟩
  obtain ⟨g, rfl, hg⟩ := own_addr ho1 (by omega)
  have D := Lib.hid (del_any rs g c1 k W0.heap.size w1 ho1 hk (by omega) hb1.size)
  have hR1 := Lib.hid (hR.below hb1 hR.lt)
  have hM1 := Lib.hid (hM.below hb1 hM.lt)
  have hG1 := Lib.hid (hG0.below hb1 hG0.lt)
  have hs1 := hb1.size
  have hb01 := hb0.trans (hb1.mono hb0.size)
  clear hR hM hG0 g0 y0 y1 y2 ho1 hb1
  go_wp2_with fail
  refine D.out.mono ?_
  rintro e w2 ⟨rfl, hb2, ho2⟩
  have hR2 := hR1.out.below hb2 (by omega)
  have hM2 := hM1.out.below hb2 (by omega)
  have hG2 := hG1.out.below hb2 (by omega)
  have g0 := (hG2.cell 0).trans (netA_lo _ _ _ _).1
  have gl2 := hG2.lt
  have gf := hG2.frozen
  obtain ⟨r0, r1, r2⟩ := blk_cell3 hR2
  obtain ⟨m0, m1, m2⟩ := blk_cell3 hM2
  have rl := hR2.lt
  have ml := hM2.lt
  have rf := hR2.frozen
  have hgr : G ≠ w.heap.size := by omega
  have hgm : G ≠ w.heap.size + 1 := by omega
  have HG2 := Lib.hid hG2
  have HO2 := Lib.hid ho2
  have hb02 := hb01.trans (hb2.mono (by omega))
  clear hR2 hM2 hG2 ho2 D
  go_wp2_with fail
  refine bodyPost_ret (v := .agg #[.int .i64 f, .int .i64 t, .slice rA n' c']) (by simp [results, Try.results30, go_sem, r0, r1, r2]) rfl ⟨⟨_, rfl⟩, ?_, some ⟨g, 0, none⟩, c1, ?_, ?_⟩
  · have F0 : Far (fun x => x = G) w w2 := Far.of_below hb02
    exact (((F0.setCell (p := ⟨G, 0, none⟩) (.inl rfl) _).setCell (p := ⟨w.heap.size, 0, none⟩) (.inr (Nat.le_refl _)) _).setCell (p := ⟨w.heap.size, 1, none⟩) (.inr (Nat.le_refl _)) _).setCell (p := ⟨w.heap.size, 2, none⟩) (.inr (Nat.le_refl _)) _
  · have h1 := HG2.out.set_ 0 (.slice (some ⟨g, 0, none⟩) (rs.length - 1) c1)
    rw [netA_set0] at h1
    exact ((h1.far (p := ⟨w.heap.size, 0, none⟩) hgr _).far (p := ⟨w.heap.size, 1, none⟩) hgr _).far (p := ⟨w.heap.size, 2, none⟩) hgr _
  · have F2 : Far (fun x => x = G ∨ x = w.heap.size) w2 ((((w2.setCell ⟨G, 0, none⟩ (.slice (some ⟨g, 0, none⟩) (rs.length - 1) c1)).setCell ⟨w.heap.size, 0, none⟩ (.int .i64 f)).setCell ⟨w.heap.size, 1, none⟩ (.int .i64 t)).setCell ⟨w.heap.size, 2, none⟩ (.slice rA n' c')) :=
      ((((Far.refl (fun x => x = G ∨ x = w.heap.size) w2).setCell (p := ⟨G, 0, none⟩) (.inl (.inl rfl)) _).setCell (p := ⟨w.heap.size, 0, none⟩) (.inl (.inr rfl)) _).setCell (p := ⟨w.heap.size, 1, none⟩) (.inl (.inr rfl)) _).setCell (p := ⟨w.heap.size, 2, none⟩) (.inl (.inr rfl)) _
    have h1 := own_far HO2.out F2 fun x ex hx => by
      have := (HO2.out.lt x ex).1
      omega
    obtain ⟨q1, q2⟩ := h1
    refine ⟨q1, ?_⟩
    rcases q2 with q2 | ⟨g', cap, cur, e1, e2, e3⟩
    · exact .inl q2
    · exact .inr ⟨g', cap, cur, e1, by omega, e3⟩
end Go.Proofs.Ytfmflbcmigiciaa
