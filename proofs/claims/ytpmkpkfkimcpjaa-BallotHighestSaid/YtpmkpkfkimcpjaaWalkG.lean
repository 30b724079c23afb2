/- Chapter 06: what the reference's Highest and SamePromise compute. -/
import Derived.Test.YtpmkpkfkimcpjaaWalkF
namespace Go.Proofs.Ytpmkpkfkimcpjaa
open Go.RowKit

def bestOk (l : List Prm) (m : Nat) (bi : Int) : Prop := (bi = -1 ∧ highP (l.take m) = none) ∨ ∃ j : Nat, j < m ∧ bi = j ∧ highP (l.take m) = l[j]?

set_option maxHeartbeats 2000000 in
theorem rhigh_any (l : List Prm) (A : Option Addr) (cap : Nat) (B : Nat) (w : World) (h : Reads w B 8 A l.length (l.flatMap Prm.cs)) (hB0 : B ≤ w.heap.size) (hl : l.length ≤ 100) :
    Calls Try.prog 25 #[.slice A l.length cap] w fun e w' => e = .returned (.tuple #[.agg ((highP l).getD Prm.zero).cs.toArray, .bool (highP l).isSome]) ∧ Below w.heap.size w w' := by
  have h := h.more hB0
  clear hB0
  go_enter Try.func25, Try.ntmps25
  go_wp2
  go_loopw [4, 5] (fun b k wr => ∃ m : Nat, ∃ bi : Int, m ≤ l.length ∧ k = .int .i64 m ∧ b = .int .i64 bi ∧ bestOk l m bi ∧ Blk wr w.heap.size 51 Prm.zero.cs.toArray ∧ Below w.heap.size w wr) (fun _ k _ => l.length - (intOf k).toNat)
  case atStart => exact ⟨0, -1, Nat.zero_le _, rfl, rfl, .inl ⟨rfl, rfl⟩, Blk.new _ _ _, (Below.refl _ _).alloc (Nat.le_refl _) _⟩
  case round =>
    obtain ⟨m, bi, hm, rfl, rfl, hbest, hk, hb⟩ := hrel
    have hlt2 := hk.lt
    have HK := Lib.hid hk
    clear hk
    by_cases hlt : m < l.length
    · obtain ⟨b, o, rfl, hB, hc⟩ := (h.below hb).elem prm_len hlt (by omega)
      obtain ⟨yf, yr, yn, yi, yar, yan, yai, yA, yk, yc, ybs, hy⟩ := mkP_ex l[m]
      rw [hy] at hc
      have y4 := hc 4 _ (by omega) rfl
      have y5 := hc 5 _ (by omega) rfl
      have y6 := hc 6 _ (by omega) rfl
      dsimp only [mkP] at y4 y5 y6
      have hE := run_neB yar yan yai 0 0 0
      have hnz : nzB l[m] = !decide ((⟨yar, yan, yai⟩ : Bal) = ⟨0, 0, 0⟩) := by rw [hy]; rfl
      have hstep : highP (l.take (m + 1)) = if nzB l[m] = true then gstepP (highP (l.take m)) l[m] else highP (l.take m) := by rw [take_snoc' l m hlt]; exact highP_snoc _ _
      have HS := Lib.hid hstep
      have HY := Lib.hid hy
      clear hy hc hstep
      by_cases hz : (⟨yar, yan, yai⟩ : Bal) = ⟨0, 0, 0⟩
      · rw [decide_eq_true hz] at hE hnz
        have hbest' : bestOk l (m + 1) bi := by
          have hh : highP (l.take (m + 1)) = highP (l.take m) := by rw [HS.out, hnz]; rfl
          rcases hbest with ⟨h1, h2⟩ | ⟨j, h1, h2, h3⟩
          · exact .inl ⟨h1, hh.trans h2⟩
          · exact .inr ⟨j, by omega, h2, hh.trans h3⟩
        have HBe := Lib.hid hbest'
        clear hz hnz hbest hbest'
        go_wp2_with fail
        refine Seg.region [(25, true)] (by kernel_rfl) (by kernel_rfl) ?_
        intro ι _ f hf hx
        simp only [List.take_succ_cons, List.take_zero, List.drop_succ_cons, List.drop_zero]
        have hf := fun i => below_of_drew (hf i)
        have hbw : b < wr.heap.size := by omega
        have e4 : ∀ i, (f i).cell? ⟨b, o + m * 8 + 4, none⟩ = some (.int .u64 yar) := fun i => ((hf i).cell (p := ⟨b, o + m * 8 + 4, none⟩) hbw).trans y4
        have e5 : ∀ i, (f i).cell? ⟨b, o + m * 8 + 5, none⟩ = some (.int .i64 yan) := fun i => ((hf i).cell (p := ⟨b, o + m * 8 + 5, none⟩) hbw).trans y5
        have e6 : ∀ i, (f i).cell? ⟨b, o + m * 8 + 6, none⟩ = some (.int .u64 yai) := fun i => ((hf i).cell (p := ⟨b, o + m * 8 + 6, none⟩) hbw).trans y6
        have HB := Lib.hid (fun i => hb.trans ((hf i).mono hb.size))
        have HKf := Lib.hid (fun i => HK.out.below (hf i) hlt2)
        clear hb hf y4 y5 y6 hlt2 h
        repeat (go_big_quiet_step ((go_at_call 23; exact (rcmp_any _ _ _ _ _ _ _).mono fun _ _ hh => ⟨hh.1, hx _ _ hh.2⟩)))
        refine wpQuiet_nil ?_
        intro i
        have hBi := HB.out i
        have hKi := Lib.hid (HKf.out i)
        simp only [Seg.Walk]
        go_wp2_with fail
        go_roundw
        case rel => exact ⟨m + 1, bi, by omega, by go_num, rfl, HBe.out, hKi.out, hBi⟩
        case measure => simp [intOf]; omega
      · rw [decide_eq_false hz] at hE hnz
        have hstep := HS.out
        rw [hnz] at hstep
        simp only [Bool.not_false, if_true] at hstep
        have HS := Lib.hid hstep
        clear hz hnz hstep
        rcases hbest with ⟨h1, h2⟩ | ⟨j, h1, h2, h3⟩
        · subst h1
          have hbest' : bestOk l (m + 1) m := .inr ⟨m, by omega, rfl, by rw [HS.out, h2, List.getElem?_eq_getElem hlt]; rfl⟩
          have HBe := Lib.hid hbest'
          clear hbest' h2
          go_wp2_with fail
          refine Seg.region [(25, true)] (by kernel_rfl) (by kernel_rfl) ?_
          intro ι _ f hf hx
          simp only [List.take_succ_cons, List.take_zero, List.drop_succ_cons, List.drop_zero]
          have hf := fun i => below_of_drew (hf i)
          have hbw : b < wr.heap.size := by omega
          have e4 : ∀ i, (f i).cell? ⟨b, o + m * 8 + 4, none⟩ = some (.int .u64 yar) := fun i => ((hf i).cell (p := ⟨b, o + m * 8 + 4, none⟩) hbw).trans y4
          have e5 : ∀ i, (f i).cell? ⟨b, o + m * 8 + 5, none⟩ = some (.int .i64 yan) := fun i => ((hf i).cell (p := ⟨b, o + m * 8 + 5, none⟩) hbw).trans y5
          have e6 : ∀ i, (f i).cell? ⟨b, o + m * 8 + 6, none⟩ = some (.int .u64 yai) := fun i => ((hf i).cell (p := ⟨b, o + m * 8 + 6, none⟩) hbw).trans y6
          have HB := Lib.hid (fun i => hb.trans ((hf i).mono hb.size))
          have HKf := Lib.hid (fun i => HK.out.below (hf i) hlt2)
          clear hb hf y4 y5 y6 hlt2 h
          repeat (go_big_quiet_step ((go_at_call 23; exact (rcmp_any _ _ _ _ _ _ _).mono fun _ _ hh => ⟨hh.1, hx _ _ hh.2⟩)))
          refine wpQuiet_nil ?_
          intro i
          have hBi := HB.out i
          have hKi := Lib.hid (HKf.out i)
          simp only [Seg.Walk]
          go_wp2_with fail
          go_roundw
          case rel => exact ⟨m + 1, (m : Int), by omega, by go_num, rfl, HBe.out, hKi.out, hBi⟩
          case measure => simp [intOf]; omega
        · subst h2
          have hjl : j < l.length := by omega
          have hj0 : decide ((j : Int) < 0) = false := by simp
          rw [List.getElem?_eq_getElem hjl] at h3
          obtain ⟨b', o', hbo, hB', hc'⟩ := (h.below hb).elem prm_len hjl (by omega)
          injection hbo with hbo
          injection hbo with hbo1 hbo2
          subst hbo1 hbo2
          obtain ⟨xf, xr, xn, xi, xar, xan, xai, xA, xk, xc, xbs, hxe⟩ := mkP_ex l[j]
          rw [hxe] at hc'
          have x4 := hc' 4 _ (by omega) rfl
          have x5 := hc' 5 _ (by omega) rfl
          have x6 := hc' 6 _ (by omega) rfl
          dsimp only [mkP] at x4 x5 x6
          have hstep := HS.out
          rw [h3] at hstep
          have hgs : highP (l.take (m + 1)) = if cmpB ⟨xar, xan, xai⟩ ⟨yar, yan, yai⟩ < 0 then some l[m] else some l[j] := by
            rw [hstep]; unfold gstepP; simp only []; rw [hxe, HY.out]; rfl
          clear hxe hc' hstep h3
          by_cases hcc : cmpB ⟨xar, xan, xai⟩ ⟨yar, yan, yai⟩ < 0
          · rw [if_pos hcc] at hgs
            have hcd : decide (cmpB ⟨xar, xan, xai⟩ ⟨yar, yan, yai⟩ < 0) = true := decide_eq_true hcc
            have hbest' : bestOk l (m + 1) m := .inr ⟨m, by omega, rfl, by rw [hgs, List.getElem?_eq_getElem hlt]⟩
            have HBe := Lib.hid hbest'
            clear hbest' hgs hcc
            go_wp2_with fail
            refine Seg.region [(25, true)] (by kernel_rfl) (by kernel_rfl) ?_
            intro ι _ f hf hx
            simp only [List.take_succ_cons, List.take_zero, List.drop_succ_cons, List.drop_zero]
            have hf := fun i => below_of_drew (hf i)
            have hbw : b < wr.heap.size := by omega
            have e4 : ∀ i, (f i).cell? ⟨b, o + m * 8 + 4, none⟩ = some (.int .u64 yar) := fun i => ((hf i).cell (p := ⟨b, o + m * 8 + 4, none⟩) hbw).trans y4
            have e5 : ∀ i, (f i).cell? ⟨b, o + m * 8 + 5, none⟩ = some (.int .i64 yan) := fun i => ((hf i).cell (p := ⟨b, o + m * 8 + 5, none⟩) hbw).trans y5
            have e6 : ∀ i, (f i).cell? ⟨b, o + m * 8 + 6, none⟩ = some (.int .u64 yai) := fun i => ((hf i).cell (p := ⟨b, o + m * 8 + 6, none⟩) hbw).trans y6
            have g4 : ∀ i, (f i).cell? ⟨b, o + j * 8 + 4, none⟩ = some (.int .u64 xar) := fun i => ((hf i).cell (p := ⟨b, o + j * 8 + 4, none⟩) hbw).trans x4
            have g5 : ∀ i, (f i).cell? ⟨b, o + j * 8 + 5, none⟩ = some (.int .i64 xan) := fun i => ((hf i).cell (p := ⟨b, o + j * 8 + 5, none⟩) hbw).trans x5
            have g6 : ∀ i, (f i).cell? ⟨b, o + j * 8 + 6, none⟩ = some (.int .u64 xai) := fun i => ((hf i).cell (p := ⟨b, o + j * 8 + 6, none⟩) hbw).trans x6
            clear x4 x5 x6
            have HB := Lib.hid (fun i => hb.trans ((hf i).mono hb.size))
            have HKf := Lib.hid (fun i => HK.out.below (hf i) hlt2)
            clear hb hf y4 y5 y6 hlt2 h
            repeat (go_big_quiet_step ((go_at_call 23; exact (rcmp_any _ _ _ _ _ _ _).mono fun _ _ hh => ⟨hh.1, hx _ _ hh.2⟩)))
            refine wpQuiet_nil ?_
            intro i
            have hBi := HB.out i
            have hKi := Lib.hid (HKf.out i)
            simp only [Seg.Walk]
            go_wp2_with fail
            go_roundw
            case rel => exact ⟨m + 1, (m : Int), by omega, by go_num, rfl, HBe.out, hKi.out, hBi⟩
            case measure => simp [intOf]; omega
          · rw [if_neg hcc] at hgs
            have hcd : decide (cmpB ⟨xar, xan, xai⟩ ⟨yar, yan, yai⟩ < 0) = false := decide_eq_false hcc
            have hbest' : bestOk l (m + 1) j := .inr ⟨j, by omega, rfl, by rw [hgs, List.getElem?_eq_getElem hjl]⟩
            have HBe := Lib.hid hbest'
            clear hbest' hgs hcc
            go_wp2_with fail
            refine Seg.region [(25, true)] (by kernel_rfl) (by kernel_rfl) ?_
            intro ι _ f hf hx
            simp only [List.take_succ_cons, List.take_zero, List.drop_succ_cons, List.drop_zero]
            have hf := fun i => below_of_drew (hf i)
            have hbw : b < wr.heap.size := by omega
            have e4 : ∀ i, (f i).cell? ⟨b, o + m * 8 + 4, none⟩ = some (.int .u64 yar) := fun i => ((hf i).cell (p := ⟨b, o + m * 8 + 4, none⟩) hbw).trans y4
            have e5 : ∀ i, (f i).cell? ⟨b, o + m * 8 + 5, none⟩ = some (.int .i64 yan) := fun i => ((hf i).cell (p := ⟨b, o + m * 8 + 5, none⟩) hbw).trans y5
            have e6 : ∀ i, (f i).cell? ⟨b, o + m * 8 + 6, none⟩ = some (.int .u64 yai) := fun i => ((hf i).cell (p := ⟨b, o + m * 8 + 6, none⟩) hbw).trans y6
            have g4 : ∀ i, (f i).cell? ⟨b, o + j * 8 + 4, none⟩ = some (.int .u64 xar) := fun i => ((hf i).cell (p := ⟨b, o + j * 8 + 4, none⟩) hbw).trans x4
            have g5 : ∀ i, (f i).cell? ⟨b, o + j * 8 + 5, none⟩ = some (.int .i64 xan) := fun i => ((hf i).cell (p := ⟨b, o + j * 8 + 5, none⟩) hbw).trans x5
            have g6 : ∀ i, (f i).cell? ⟨b, o + j * 8 + 6, none⟩ = some (.int .u64 xai) := fun i => ((hf i).cell (p := ⟨b, o + j * 8 + 6, none⟩) hbw).trans x6
            clear x4 x5 x6
            have HB := Lib.hid (fun i => hb.trans ((hf i).mono hb.size))
            have HKf := Lib.hid (fun i => HK.out.below (hf i) hlt2)
            clear hb hf y4 y5 y6 hlt2 h
            repeat (go_big_quiet_step ((go_at_call 23; exact (rcmp_any _ _ _ _ _ _ _).mono fun _ _ hh => ⟨hh.1, hx _ _ hh.2⟩)))
            refine wpQuiet_nil ?_
            intro i
            have hBi := HB.out i
            have hKi := Lib.hid (HKf.out i)
            simp only [Seg.Walk]
            go_wp2_with fail
            go_roundw
            case rel => exact ⟨m + 1, (j : Int), by omega, by go_num, rfl, HBe.out, hKi.out, hBi⟩
            case measure => simp [intOf]; omega
    · have hml : m = l.length := by omega
      have hbest2 : (bi = -1 ∧ highP l = none) ∨ ∃ j : Nat, j < l.length ∧ bi = j ∧ highP l = l[j]? := by
        have hb2 := hbest
        unfold bestOk at hb2
        rw [hml, List.take_length] at hb2
        exact hb2
      clear hml hbest
      have hfk := HK.out.frozen
      obtain ⟨d0, d1, d2, d3, d4, d5, d6, d7⟩ := blk_cell8 (show Blk wr w.heap.size 51 #[.int .i64 0, .int .u64 0, .int .i64 0, .int .u64 0, .int .u64 0, .int .i64 0, .int .u64 0, .slice none 0 0] from HK.out)
      rcases hbest2 with ⟨h1, h2⟩ | ⟨j, h1, h2, h3⟩
      · subst h1
        have HZ := Lib.hid h2
        clear h2 h
        go_wp2_with fail
        refine bodyPost_ret (v := .tuple #[.agg #[.int .i64 0, .int .u64 0, .int .i64 0, .int .u64 0, .int .u64 0, .int .i64 0, .int .u64 0, .slice none 0 0], .bool false]) (by simp [results, Try.results25, go_sem, d0, d1, d2, d3, d4, d5, d6, d7]) rfl ⟨by rw [HZ.out]; rfl, ?_⟩
        exact below_set8 hb (Nat.le_refl _) _ _ _ _ _ _ _ _
      · subst h2
        rw [List.getElem?_eq_getElem h1] at h3
        obtain ⟨b, o, rfl, hB, hc⟩ := (h.below hb).elem prm_len h1 (by omega)
        obtain ⟨yf, yr, yn, yi, yar, yan, yai, yA, yk, yc, ybs, hy⟩ := mkP_ex l[j]
        rw [hy] at hc h3
        have y0 := hc 0 _ (by omega) rfl
        have y1 := hc 1 _ (by omega) rfl
        have y2 := hc 2 _ (by omega) rfl
        have y3 := hc 3 _ (by omega) rfl
        have y4 := hc 4 _ (by omega) rfl
        have y5 := hc 5 _ (by omega) rfl
        have y6 := hc 6 _ (by omega) rfl
        have y7 := hc 7 _ (by omega) rfl
        rw [Nat.add_zero] at y0
        dsimp only [mkP] at y0 y1 y2 y3 y4 y5 y6 y7
        have HZ := Lib.hid h3
        clear h3 h hy hc
        go_wp2_with fail
        refine bodyPost_ret (v := .tuple #[.agg #[.int .i64 yf, .int .u64 yr, .int .i64 yn, .int .u64 yi, .int .u64 yar, .int .i64 yan, .int .u64 yai, .slice yA yk yc], .bool true]) (by simp [results, Try.results25, go_sem, d0, d1, d2, d3, d4, d5, d6, d7]) rfl ⟨by rw [HZ.out]; rfl, ?_⟩
        exact below_set8 hb (Nat.le_refl _) _ _ _ _ _ _ _ _

theorem run_conv (bs : List Int) (A : Option Addr) (k c : Nat) (B : Nat) (W : World) (hk : bs.length = k) (h : Reads W B 1 A k (bs.map (.int .u8))) :
    (convert 49 9 (.slice A k c)).run Try.prog W = .ok (.string (strOfNums bs)) W := by
  rcases Nat.eq_zero_or_pos k with h0 | h0
  · subst h0
    have hb : bs = [] := List.eq_nil_of_length_eq_zero hk
    subst hb
    rw [run_convert_bytes_string W 49 9 5 _ 0 c Try.underlying49 Try.underlying5 Try.underlying9]
    cases A <;> simp [Conv.bytesToString, loadCells]
    all_goals rfl
  · obtain ⟨b, o, rfl, hB, hc⟩ := h.lit (by simp; omega)
    refine run_convert_bytes_arg W 49 5 Try.underlying49 Try.underlying5 b o k c bs hk (fun i hi => ?_) 9 Try.underlying9
    refine hc i _ ?_
    rw [List.getElem?_map, List.getD_eq_getElem?_getD, List.getElem?_eq_getElem (by omega)]
    rfl

set_option maxHeartbeats 1000000 in
theorem same_any (f r n i ar an ai : Int) (A A' : Option Addr) (k c c' : Nat) (bs : List Int) (w : World) (hk : bs.length = k)
    (h1 : Reads w w.heap.size 1 A k (bs.map (.int .u8))) (h2 : Reads w w.heap.size 1 A' k (bs.map (.int .u8))) :
    Calls Try.prog 26 #[.agg #[.int .i64 f, .int .u64 r, .int .i64 n, .int .u64 i, .int .u64 ar, .int .i64 an, .int .u64 ai, .slice A' k c'], .agg #[.int .i64 f, .int .u64 r, .int .i64 n, .int .u64 i, .int .u64 ar, .int .i64 an, .int .u64 ai, .slice A k c]] w
      fun e w' => e = .returned (.bool true) ∧ Below w.heap.size w w' := by
  have hb := (((Below.refl w.heap.size w).alloc (Nat.le_refl _) (.cells #[.int .i64 f, .int .u64 r, .int .i64 n, .int .u64 i, .int .u64 ar, .int .i64 an, .int .u64 ai, .slice A' k c'] 51)).alloc (by simp) (.cells #[.int .i64 f, .int .u64 r, .int .i64 n, .int .u64 i, .int .u64 ar, .int .i64 an, .int .u64 ai, .slice A k c] 51))
  have hE1 := run_eqB r n i r n i
  have hE2 := run_eqB ar an ai ar an ai
  have hC1 := run_conv bs A k c _ _ hk (h1.below hb)
  have hC2 := run_conv bs A' k c' _ _ hk (h2.below hb)
  rw [decide_eq_true rfl] at hE1 hE2
  have HB := Lib.hid hb
  clear h1 h2 hb
  go_enter Try.func26, Try.ntmps26
  go_wp2_with fail
  go_ret
  exact ⟨rfl, HB.out⟩
end Go.Proofs.Ytpmkpkfkimcpjaa
