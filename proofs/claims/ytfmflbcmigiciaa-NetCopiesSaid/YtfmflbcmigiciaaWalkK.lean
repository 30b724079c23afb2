/- Chapter 05: Deliver where there is one. -/
import Derived.Test.YtfmflbcmigiciaaWalkJ
namespace Go.Proofs.Ytfmflbcmigiciaa
open Go.RowKit

set_option maxHeartbeats 1000000 in
theorem deliver_down (G n c k : Nat) (A : Option Addr) (N : Int) (cut : Nat → Nat → Bool) (rs : List Raw) (f t : Int) (rA : Option Addr) (rc : Nat) (bs : List Int) (w : World) (h : Blk w G 56 (netA (.slice A n c) 64 N cut)) (hn : rs.length = n) (hm : MR w w.heap.size A rs) (hr : rs[k]? = some ⟨f, t, rA, bs.length, rc⟩) (hb : BR w w.heap.size rA bs) (hl : bs.length ≤ 1000000000) (hN : N ≤ 15) (ho : openB N cut f t = false) :
    Calls Try.prog 12 #[.pointer (some ⟨G, 0, none⟩), .int .i64 k] w fun e w' => e = .returned (.tuple #[msg0, .int .i64 6]) ∧ Below w.heap.size w w' := by
  obtain ⟨W0, hW0⟩ : ∃ W0, W0 = w.alloc (.cells #[.int .i64 0, .int .i64 0, .slice none 0 0] 33) := ⟨_, rfl⟩
  have hb0 : Below w.heap.size w W0 := by rw [hW0]; exact (Below.refl _ _).alloc (Nat.le_refl _) _
  have hR : Blk W0 w.heap.size 33 #[.int .i64 0, .int .i64 0, .slice none 0 0] := by rw [hW0]; exact Blk.new _ _ _
  have C := Lib.hid (at_yes G n c k A 64 N cut rs f t rA rc bs W0 (h.below hb0 h.lt) hn ((hm.below hb0).more hb0.size) hr ((hb.below hb0).more hb0.size) hl)
  have HR := Lib.hid hR
  have HG := Lib.hid (h.below hb0 h.lt)
  have gl := hR.lt
  have hgl := h.lt
  clear h hm hr hb hR
  go_enter Try.func12, Try.ntmps12
  go_wp2_with fail
  rw [← hW0]
  clear hW0
  refine C.out.mono ?_
  rintro e w1 ⟨A', c', rfl, hb1, hc1, hc2, hown⟩
  have hb01 := hb0.trans (hb1.mono hb0.size)
  have HR1 := Lib.hid (HR.out.below hb1 gl)
  have hG1 := HG.out.below hb1 HG.out.lt
  have hsz := hb1.size
  have O := Lib.hid (open_any G (.slice A n c) 64 N f t cut (w1.alloc (.cells #[.int .i64 f, .int .i64 t, .slice A' bs.length c'] 33)) (hG1.alloc _) hN)
  rw [ho] at O
  clear C hown hG1 ho hb1
  go_wp2_with fail
  refine O.out.mono ?_
  rintro e w2 ⟨rfl, hw2⟩
  subst hw2
  obtain ⟨r0, r1, r2⟩ := blk_cell3 HR1.out
  have rf := HR1.out.frozen
  have rl := HR1.out.lt
  clear O
  go_wp2_with fail
  refine bodyPost_ret (v := .tuple #[msg0, .int .i64 6]) (by simp [results, Try.results12, go_sem, msg0, r0, r1, r2, rl]) rfl ⟨rfl, ?_⟩
  exact (((hb01.setCell (p := ⟨w.heap.size, 0, none⟩) (Nat.le_refl _) _).setCell (p := ⟨w.heap.size, 1, none⟩) (Nat.le_refl _) _).setCell (p := ⟨w.heap.size, 2, none⟩) (Nat.le_refl _) _).alloc (by simp only [size_setCell]; exact hb01.size) _

set_option maxHeartbeats 1000000 in
theorem deliver_yes (G n c k base : Nat) (A : Option Addr) (N : Int) (cut : Nat → Nat → Bool) (rs : List Raw) (f t : Int) (rA : Option Addr) (rc : Nat) (bs : List Int) (w : World) (h : Blk w G 56 (netA (.slice A n c) 64 N cut)) (hn : rs.length = n) (hn1 : n ≤ 1000) (hrow : w.ownsRow base 33 3 (.slice A n c) n (rs.flatMap Raw.cs)) (hr : rs[k]? = some ⟨f, t, rA, bs.length, rc⟩) (hb : BR w w.heap.size rA bs) (hl : bs.length ≤ 1000000000) (hN : N ≤ 15) (ho : openB N cut f t = true) :
    Calls Try.prog 12 #[.pointer (some ⟨G, 0, none⟩), .int .i64 k] w fun e w' => ∃ A' c', e = .returned (.tuple #[.agg #[.int .i64 f, .int .i64 t, .slice A' bs.length c'], .int .i64 0]) ∧ bs.length ≤ c' ∧ c' ≤ maxLen ∧ w'.ownsRow w.heap.size 5 1 (.slice A' bs.length c') bs.length (bs.map (.int .u8)) ∧
      Far (fun x => x = G) w w' ∧ ∃ A2 c2, Blk w' G 56 (netA (.slice A2 (n - 1) c2) 64 N cut) ∧ w'.ownsRow w.heap.size 33 3 (.slice A2 (n - 1) c2) (n - 1) ((rs.take k ++ rs.drop (k + 1)).flatMap Raw.cs) := by
  have hk : k < n := by rw [← hn]; exact (List.getElem?_eq_some_iff.1 hr).1
  obtain ⟨W0, hW0⟩ : ∃ W0, W0 = w.alloc (.cells #[.int .i64 0, .int .i64 0, .slice none 0 0] 33) := ⟨_, rfl⟩
  have hb0 : Below w.heap.size w W0 := by rw [hW0]; exact (Below.refl _ _).alloc (Nat.le_refl _) _
  have hs0 : W0.heap.size = w.heap.size + 1 := by rw [hW0]; simp
  have hR : Blk W0 w.heap.size 33 #[.int .i64 0, .int .i64 0, .slice none 0 0] := by rw [hW0]; exact Blk.new _ _ _
  have hm : MR w w.heap.size A rs := by unfold MR; rw [hn]; exact Reads.of_own hrow
  have C := Lib.hid (at_yes G n c k A 64 N cut rs f t rA rc bs W0 (h.below hb0 h.lt) hn ((hm.below hb0).more hb0.size) hr ((hb.below hb0).more hb0.size) hl)
  have HR := Lib.hid hR
  have HG := Lib.hid (h.below hb0 h.lt)
  have HW := Lib.hid (own_below0 hrow hb0)
  have gl := hR.lt
  have hgl := h.lt
  clear h hm hr hb hR hrow
  go_enter Try.func12, Try.ntmps12
  go_wp2_with fail
  rw [← hW0]
  clear hW0
  refine C.out.mono ?_
  rintro e w1 ⟨A', c', rfl, hb1, hc1, hc2, hown⟩
  have hb01 := hb0.trans (hb1.mono hb0.size)
  obtain ⟨W2, hW2⟩ : ∃ W2, W2 = w1.alloc (.cells #[.int .i64 f, .int .i64 t, .slice A' bs.length c'] 33) := ⟨_, rfl⟩
  have hb12 : Below w1.heap.size w1 W2 := by rw [hW2]; exact (Below.refl _ _).alloc (Nat.le_refl _) _
  have hM2 : Blk W2 w1.heap.size 33 #[.int .i64 f, .int .i64 t, .slice A' bs.length c'] := by rw [hW2]; exact Blk.new _ _ _
  have hs1 := hb1.size
  have hb02 : Below W0.heap.size W0 W2 := hb1.trans (hb12.mono hs1)
  have HR2 := Lib.hid (HR.out.below hb02 gl)
  have hG2 := HG.out.below hb02 HG.out.lt
  have HO2 := Lib.hid (own_below0 hown hb12)
  have O := Lib.hid (open_any G (.slice A n c) 64 N f t cut W2 hG2 hN)
  have T := Lib.hid (take_any G n c k base A N cut rs W2 hG2 hn hn1 hk (own_below0 HW.out hb02))
  rw [ho] at O
  have HM2 := Lib.hid hM2
  have hgl1 : G < w1.heap.size := by omega
  have ms := hM2.lt
  clear C hown hG2 ho hM2
  go_wp2_with fail
  rw [← hW2]
  clear hW2
  refine O.out.mono ?_
  rintro e w2 ⟨rfl, hw2⟩
  subst hw2
  clear O
  go_wp2_with fail
  refine T.out.mono ?_
  rintro e w4 ⟨⟨v, rfl⟩, hf, A2, c2, hG4, ho4⟩
  have hR4 := HR2.out.far_ hf (by omega)
  have hM4 := HM2.out.far_ hf (by omega)
  obtain ⟨r0, r1, r2⟩ := blk_cell3 hR4
  obtain ⟨m0, m1, m2⟩ := blk_cell3 hM4
  have rf := hR4.frozen
  have rl := hR4.lt
  have ml := hM4.lt
  have HF := Lib.hid hf
  have HG4 := Lib.hid hG4
  have HO4 := Lib.hid ho4
  clear hf hG4 ho4 hR4 hM4 T
  go_wp2_with fail
  have hs2 := hb02.size
  have hgne : G ≠ w.heap.size := by omega
  have low : ∀ {V : World} {base' e s m : Nat} {v : Value} {xs : List Value}, V.ownsRow base' e s v m xs → w.heap.size ≤ base' → V.ownsRow w.heap.size e s v m xs := fun hv hle => by
    obtain ⟨q1, q2⟩ := hv
    refine ⟨q1, ?_⟩
    rcases q2 with q2 | ⟨g', cap, cur, e1, e2, e3⟩
    · exact .inl q2
    · exact .inr ⟨g', cap, cur, e1, by omega, e3⟩
  have o4 := own_far HO2.out HF.out fun x ex hx => by
    have := (HO2.out.lt x ex).1
    omega
  refine bodyPost_ret (v := .tuple #[.agg #[.int .i64 f, .int .i64 t, .slice A' bs.length c'], .int .i64 0]) (by simp [results, Try.results12, go_sem, r0, r1, r2]) rfl ⟨A', c', rfl, hc1, hc2, ?_, ?_, A2, c2, ?_, ?_⟩
  · exact low (ownsRow_setCell_below (ownsRow_setCell_below (ownsRow_setCell_below o4 (a := ⟨w.heap.size, 0, none⟩) (by show w.heap.size < W0.heap.size; omega) _) (a := ⟨w.heap.size, 1, none⟩) (by show w.heap.size < W0.heap.size; omega) _) (a := ⟨w.heap.size, 2, none⟩) (by show w.heap.size < W0.heap.size; omega) _) (by omega)
  · have F0 : Far (fun x => x = G) w w4 := (Far.of_below (hb0.trans (hb02.mono hb0.size))).trans HF.out fun _ _ hx => hx
    exact ((F0.setCell (p := ⟨w.heap.size, 0, none⟩) (.inr (Nat.le_refl _)) _).setCell (p := ⟨w.heap.size, 1, none⟩) (.inr (Nat.le_refl _)) _).setCell (p := ⟨w.heap.size, 2, none⟩) (.inr (Nat.le_refl _)) _
  · exact ((HG4.out.far (p := ⟨w.heap.size, 0, none⟩) hgne _).far (p := ⟨w.heap.size, 1, none⟩) hgne _).far (p := ⟨w.heap.size, 2, none⟩) hgne _
  · exact low (ownsRow_setCell_below (ownsRow_setCell_below (ownsRow_setCell_below HO4.out (a := ⟨w.heap.size, 0, none⟩) (by simp only []; omega) _) (a := ⟨w.heap.size, 1, none⟩) (by simp only []; omega) _) (a := ⟨w.heap.size, 2, none⟩) (by simp only []; omega) _) (by omega)
end Go.Proofs.Ytfmflbcmigiciaa
