/- Chapter 05: both nets say the same. -/
import Derived.Test.YtfmflbcmigiciaaAct
namespace Go.Proofs.Ytfmflbcmigiciaa
open Go.RowKit

set_option maxRecDepth 100000 in
set_option maxHeartbeats 8000000 in
theorem stands_any {w : World} {R : Nat → Prop} {G : Nat} {A : Option Addr} {M : Nat} {N : Int} {cut : Nat → Nat → Bool} {bag : List Msg} {K : Nat} (h1 : NetAt w R G A N cut bag) (h2 : RefAt w R M N cut bag K) (hK : K ≤ 1000000) :
    Calls Try.prog 23 #[.pointer (some ⟨G, 0, none⟩), .pointer (some ⟨M, 0, none⟩)] w fun e w' => e = .returned (.bool true) ∧ Below w.heap.size w w' := by
  have H1 := Lib.hid h1
  have H2 := Lib.hid h2
  obtain ⟨Ar, cr, Ac, cc, rs, cl, kb, _, _, _, _, _, _, _⟩ := h2.ex
  have KB := Lib.hid kb
  have ml := kb.lt
  have hlo := h1.lo
  have hhi := h1.hi
  have hlen := h1.len
  have HLEN : Hid (∀ w', Below w.heap.size w w' → Calls Try.prog 11 #[.pointer (some ⟨G, 0, none⟩)] w' fun e w'' => e = .returned (.int .i64 bag.length) ∧ w' = w'') := Lib.hid fun w' hb => c_len (h1.below hb)
  clear h1 h2 kb
  generalize hn : bag.length = n at KB HLEN hlen
  clear hn
  go_enter Try.func23, Try.ntmps23
  go_wp2_with fail
  refine Seg.region [(17, true)] (by kernel_rfl) (by kernel_rfl) ?_
  intro ι _ f hf hxx
  simp only [List.take_succ_cons, List.take_zero, List.drop_succ_cons, List.drop_zero]
  have hf := fun i => below_of_drew (hf i)
  obtain ⟨a0, a1, a2⟩ := blk_cells3 (fun i => KB.out.below (hf i) ml)
  have HF := Lib.hid hf
  clear hf
  repeat (go_big_quiet_step (first
    | (go_at_call 25; exact (c_nodes (H1.out.below (HF.out _))).mono fun _ _ hh => ⟨hh.1, _, hh.2.symm⟩)
    | (go_at_call 11; exact (HLEN.out _ (HF.out _)).mono fun _ _ hh => ⟨hh.1, _, hh.2.symm⟩)))
  refine wpQuiet_nil ?_
  intro i0
  have hb0 := HF.out i0
  simp only [Seg.Walk]
  clear a0 a1 a2
  generalize f i0 = W0 at hb0 ⊢
  clear HF hxx
  have m0' := (KB.out.below hb0 ml).cell 0
  have m1' := (KB.out.below hb0 ml).cell 1
  have ml' := (KB.out.below hb0 ml).lt
  go_wp2_with fail
  clear m0' m1' ml'
  go_loopw [5] (fun v wr => ∃ z : Int, -1 ≤ z ∧ z ≤ n + 1 ∧ v = .int .i64 z ∧ Below w.heap.size w wr) (fun v _ => ((n : Int) + 1 - intOf v).toNat)
  case atStart => exact ⟨-1, by omega, by omega, rfl, hb0⟩
  case round =>
    clear hb0
    obtain ⟨z, hz1, hz2, rfl, hbr⟩ := hrel
    have m0' := (KB.out.below hbr ml).cell 0
    have m1' := (KB.out.below hbr ml).cell 1
    have ml' := (KB.out.below hbr ml).lt
    have HBR := Lib.hid hbr
    by_cases hz : z ≤ n
    · have d1 : decide (z ≤ (n : Int)) = true := decide_eq_true hz
      have hmle := (H1.out.below hbr).at_le z
      have C := c_at (H1.out.below hbr) z
      have CR := fun (w' : World) (hb : Below w.heap.size w w') => rat_any (H2.out.below hb) z
      obtain ⟨mae, hmae⟩ : ∃ q, atR bag z = q := ⟨_, rfl⟩
      obtain ⟨ma, ae⟩ := mae
      rw [hmae] at C hmle
      simp only [hmae] at CR
      have CC := Lib.hid C
      have CCR := Lib.hid CR
      clear C CR hmae hbr m0'
      go_wp2_with fail
      refine CC.out.mono ?_
      rintro e w1 ⟨Aa, ca, rfl, hb1, hoa⟩
      obtain ⟨W1, hW1⟩ : ∃ W1, W1 = w1.alloc (.cells #[.int .i64 ma.f, .int .i64 ma.t, .slice Aa ma.bs.length ca] 33) := ⟨_, rfl⟩
      have hb11 : Below w1.heap.size w1 W1 := by rw [hW1]; exact (Below.refl _ _).alloc (Nat.le_refl _) _
      have ka : Blk W1 w1.heap.size 33 #[.int .i64 ma.f, .int .i64 ma.t, .slice Aa ma.bs.length ca] := by rw [hW1]; exact Blk.new _ _ _
      have hs1 := hb1.size
      have hbw1 := HBR.out.trans ((hb1.trans (hb11.mono hb1.size)).mono HBR.out.size)
      have HOA := Lib.hid (hoa.below hb11)
      have KA1 := Lib.hid ka
      have HB1 := Lib.hid hbw1
      unfold msgV
      clear hb1 hb11 hoa ka hbw1 CC m1' ml'
      go_wp2_with fail
      rw [← hW1]
      clear hW1
      refine (CCR.out W1 HB1.out).mono ?_
      rintro e w2 ⟨Ab, cb, rfl, hb2, hrdb⟩
      have hb3 := hb2.trans (((Below.refl w2.heap.size w2).alloc (Nat.le_refl _) (.cells #[.int .i64 ma.f, .int .i64 ma.t, .slice Ab ma.bs.length cb] 33)).mono hb2.size)
      have hl1 := KA1.out.lt
      obtain ⟨a0, a1, a2⟩ := blk_cell3 (KA1.out.below hb2 hl1)
      have al := (KA1.out.below hb2 hl1).lt
      have CS := same_any ma ma Aa Ab ca cb W1.heap.size _ ((Reads.of_own HOA.out.row).below hb3) ((hrdb.1.below hb3)) hb3.size
      rw [same_self] at CS
      unfold msgV at CS ⊢
      have CCS := Lib.hid CS
      have HB3 := Lib.hid (HB1.out.trans (hb3.mono HB1.out.size))
      clear hb2 hb3 hrdb CS CCR
      go_wp2_with fail
      refine CCS.out.mono ?_
      rintro e w3 ⟨rfl, hb4⟩
      have HB4 := Lib.hid (HB3.out.trans (hb4.mono HB3.out.size))
      clear hb4 CCS a0 a1 a2 al
      go_wp2_with fail
      go_roundw
      case rel => exact ⟨z + 1, by omega, by omega, by go_num, HB4.out⟩
      case measure => simp [intOf]; omega
    · have d1 : decide (z ≤ (n : Int)) = false := decide_eq_false hz
      clear hbr m0'
      go_wp2_with fail
      clear d1 m1' ml'
      go_loopw [10] (fun v wq => ∃ a : Nat, (a : Int) ≤ N + 2 ∧ v = .int .i64 a ∧ Below w.heap.size w wq) (fun v _ => (N + 2 - intOf v).toNat)
      case atStart => exact ⟨0, by omega, rfl, HBR.out⟩
      case round =>
        obtain ⟨a, ha, rfl, hbq⟩ := hrel
        have m0' := (KB.out.below hbq ml).cell 0
        have ml' := (KB.out.below hbq ml).lt
        have HBQ := Lib.hid hbq
        by_cases hac : (a : Int) ≤ N + 1
        · have d2 : decide ((a : Int) ≤ N + 1) = true := decide_eq_true hac
          clear hbq
          go_wp2_with fail
          clear d2 m0' ml'
          go_loopw [11] (fun v wp => ∃ b : Nat, (b : Int) ≤ N + 2 ∧ v = .int .i64 b ∧ Below w.heap.size w wp) (fun v _ => (N + 2 - intOf v).toNat)
          case atStart => exact ⟨0, by omega, rfl, HBQ.out⟩
          case round =>
            obtain ⟨b, hb, rfl, hbp⟩ := hrel
            have m0' := (KB.out.below hbp ml).cell 0
            have ml' := (KB.out.below hbp ml).lt
            have HBP := Lib.hid hbp
            by_cases hbc : (b : Int) ≤ N + 1
            · have d2 : decide ((b : Int) ≤ N + 1) = true := decide_eq_true hbc
              have C1 := Lib.hid (c_open (H1.out.below hbp) a b)
              have C2 := Lib.hid (ropen_any (H2.out.below hbp) hK a b)
              clear hbp
              go_wp2_with fail
              refine C1.out.mono ?_
              rintro e w5 ⟨rfl, hw⟩
              subst hw
              go_wp2_with fail
              refine C2.out.mono ?_
              rintro e w6 ⟨rfl, hb6⟩
              have HB6 := Lib.hid (HBP.out.trans (hb6.mono HBP.out.size))
              generalize openB N cut a b = ob
              clear hb6 C1 C2 m0' ml'
              go_wp2_with fail
              go_roundw
              case rel => exact ⟨b + 1, by omega, by go_num, HB6.out⟩
              case measure => simp [intOf]; omega
            · have d2 : decide ((b : Int) ≤ N + 1) = false := decide_eq_false hbc
              clear hbp
              go_wp2_with fail
              go_roundw
              case rel => exact ⟨a + 1, by omega, by go_num, HBP.out⟩
              case measure => simp [intOf]; omega
        · have d2 : decide ((a : Int) ≤ N + 1) = false := decide_eq_false hac
          clear hbq
          go_wp2_with fail
          go_ret
          exact ⟨rfl, HBQ.out⟩
end Go.Proofs.Ytfmflbcmigiciaa
