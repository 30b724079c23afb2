/- Chapter 05: the document's net: Heal. -/
import Derived.Test.YtfmflbcmigiciaaRefH
namespace Go.Proofs.Ytfmflbcmigiciaa
open Go.RowKit

def keepP (p q : Int × Int) : Bool := decide (q ≠ p)

set_option maxHeartbeats 4000000 in
theorem rHeal_any {w : World} {R : Nat → Prop} {M : Nat} {N : Int} {cut : Nat → Nat → Bool} {bag : List Msg} {K : Nat} (h : RefAt w R M N cut bag K) (hK : K ≤ 1000000) (a b : Int) :
    Calls Try.prog 42 #[.pointer (some ⟨M, 0, none⟩), .int .i64 a, .int .i64 b] w fun e w' => e = .returned (.int .i64 (if twoB N a b = true then 0 else 1)) ∧ Ref1 w w' R M N (cutP N cut a b false) bag K := by
  have HH := Lib.hid h
  obtain ⟨Ar, cr, Ac, cc, rs, cl, h1, h2, h3, h4, h5, h6, h7, h8⟩ := h.ex
  cases ht : twoB N a b with
  | false =>
    have C := Lib.hid (rlink_no M N a b _ _ w h1 ht)
    rw [cutP_no ht]
    simp only [Bool.false_eq_true, if_false]
    clear h h1 h2 h3 h4 h5 h6 h7 h8 ht
    go_enter Try.func42, Try.ntmps42
    go_wp2_with fail
    refine C.out.mono ?_
    rintro e w1 ⟨rfl, hb⟩
    have HF := Lib.hid (Ref1.same HH.out (hb.alloc hb.size (.cells #[.int .i64 0, .int .i64 0] 80)))
    clear hb C
    go_wp2_with fail
    go_ret
    exact ⟨rfl, HF.out⟩
  | true =>
    have C := rlink_yes M N a b _ _ w h1 ht
    have hag : ∀ cl', (∀ q, q ∈ cl' ↔ q ∈ cl ∧ q ≠ linkP a b) → Agr N (cutP N cut a b false) cl' := fun cl' hm => agr_heal h6 ht hm
    have HAG := Lib.hid hag
    generalize linkP a b = p at C HAG
    simp only [if_true]
    have CC := Lib.hid C
    have H1 := Lib.hid h1
    have H4 := Lib.hid h4.1
    have hml := h1.lt
    have hcl := Nat.le_trans h5 hK
    have hclK := h5
    have HAN := Lib.hid (HAG.out (cl.filter (keepP p)) fun q => by simp [keepP, List.mem_filter])
    obtain ⟨i0, hi, hz0, hz1, hz2⟩ := info_parts info80
    clear C h h1 h2 h3 h4 h5 h6 h7 h8 ht hag HAG
    go_enter Try.func42, Try.ntmps42
    go_wp2_with fail
    refine CC.out.mono ?_
    rintro e w1 ⟨rfl, hb⟩
    obtain ⟨W1, hW1⟩ : ∃ W1, W1 = w1.alloc (.cells #[.int .i64 p.1, .int .i64 p.2] 80) := ⟨_, rfl⟩
    have hb12 : Below w1.heap.size w1 W1 := by rw [hW1]; exact (Below.refl _ _).alloc (Nat.le_refl _) _
    have kb1 : Blk W1 w1.heap.size 80 #[.int .i64 p.1, .int .i64 p.2] := by rw [hW1]; exact Blk.new _ _ _
    have hb2 := hb.trans (hb12.mono hb.size)
    have HB2 := Lib.hid hb2
    have KB1 := Lib.hid kb1
    have hs1 := hb.size
    clear hb hb2 CC hb12 kb1
    go_wp2_with fail
    rw [← hW1]
    clear hW1
    go_loopw [9, 10] (fun lv iv wr => ∃ (k : Nat) (A9 : Option Addr) (c9 : Nat), k ≤ cl.length ∧ iv = .int .i64 k ∧ lv = .slice A9 ((cl.take k).filter (keepP p)).length c9 ∧ Below W1.heap.size W1 wr ∧ wr.ownsRow W1.heap.size 80 2 (.slice A9 ((cl.take k).filter (keepP p)).length c9) ((cl.take k).filter (keepP p)).length (((cl.take k).filter (keepP p)).flatMap pr)) (fun _ iv _ => cl.length - (intOf iv).toNat)
    case atStart => exact ⟨0, none, 0, Nat.zero_le _, rfl, rfl, Below.refl _ _, ⟨rfl, .inl ⟨rfl, rfl⟩⟩⟩
    case round =>
      obtain ⟨k, A9, c9, hk, rfl, rfl, hbr, ho9⟩ := hrel
      have hbw := HB2.out.trans (hbr.mono HB2.out.size)
      have hm := H1.out.below hbw hml
      have m2 := hm.cell 2
      have ml := hm.lt
      have mf := hm.frozen
      have kb := KB1.out.below hbr KB1.out.lt
      have q0 := kb.cell 0
      have q1 := kb.cell 1
      have ql := kb.lt
      have HBW := Lib.hid hbw
      have HBR := Lib.hid hbr
      have HO9 := Lib.hid ho9
      have hrw := H4.out.below hbw
      clear hm kb hbw hbr ho9
      by_cases hlt : k < cl.length
      · obtain ⟨bb, o, hA, hBb, y0, y1⟩ := pr_elem hrw hlt
        have hbb : bb < wr.heap.size := by have := HBW.out.size; omega
        have htk : (cl.take (k + 1)).filter (keepP p) = (cl.take k).filter (keepP p) ++ (if keepP p cl[k] = true then [cl[k]] else []) := by
          rw [List.take_succ_eq_append_getElem hlt, List.filter_append]
          congr 1
          simp only [List.filter_cons, List.filter_nil]
        have hfl : ((cl.take k).filter (keepP p)).length ≤ k := Nat.le_trans (List.length_filter_le _ _) (by rw [List.length_take]; omega)
        obtain ⟨q, hq⟩ : ∃ q, q = cl[k] := ⟨_, rfl⟩
        rw [← hq] at y0 y1 htk
        generalize hfk : (cl.take k).filter (keepP p) = fk at HO9 htk hfl ⊢
        subst hA
        have HTK := Lib.hid htk
        have HQ := Lib.hid hq
        have hE := run_neL q.1 q.2 p.1 p.2
        clear hrw htk hq hfk
        by_cases heq : q = p
        · have hd : decide (q.1 = p.1 ∧ q.2 = p.2) = true := decide_eq_true (by rw [heq]; exact ⟨rfl, rfl⟩)
          simp only [hd, Bool.not_true] at hE
          have hkp : keepP p q = false := by simp [keepP, heq]
          have HKP := Lib.hid hkp
          clear heq hd hkp
          go_wp2_with fail
          go_quiet (fail)
          go_wp2_with fail
          go_roundw
          case rel =>
            have h9 := HTK.out
            rw [if_neg (by rw [HKP.out]; decide), List.append_nil] at h9
            exact ⟨k + 1, A9, c9, by omega, by go_num, by rw [h9], below_drewN HBR.out _, by rw [h9]; exact own_below0 HO9.out (below_drewN (Below.refl _ _) _)⟩
          case measure => simp [intOf]; omega
        · have hd : decide (q.1 = p.1 ∧ q.2 = p.2) = false := decide_eq_false (fun h => heq (Prod.ext h.1 h.2))
          simp only [hd, Bool.not_false] at hE
          have hkp : keepP p q = true := by simp [keepP, heq]
          have HKP := Lib.hid hkp
          clear heq hd hkp
          go_wp2_with fail
          go_quiet (fail)
          generalize hwd : wr.drewN nq = wd
          have hbd : Below wr.heap.size wr wd := by rw [← hwd]; exact below_drewN (Below.refl _ _) nq
          have m3 := (hbd.cell (p := ⟨M, 2, none⟩) ml).trans m2
          have ml3 : M < wd.heap.size := Nat.lt_of_lt_of_le ml hbd.size
          have y3 := (hbd.cell (p := ⟨bb, o + k * 2, none⟩) hbb).trans y0
          have y4 := (hbd.cell (p := ⟨bb, o + k * 2 + 1, none⟩) hbb).trans y1
          have hbb3 : bb < wd.heap.size := Nat.lt_of_lt_of_le hbb hbd.size
          have HBD := Lib.hid (HBR.out.trans (hbd.mono HBR.out.size))
          have hod := own_below0 HO9.out hbd
          have hwa := (Below.refl wd.heap.size wd).alloc (Nat.le_refl _) (.cells #[.int .i64 q.1, .int .i64 q.2] 80)
          have HOa := Lib.hid (own_below0 hod hwa)
          have HR1 := Lib.hid (show Reads (wd.alloc (.cells #[.int .i64 q.1, .int .i64 q.2] 80)) (wd.alloc (.cells #[.int .i64 q.1, .int .i64 q.2] 80)).heap.size 2 (some ⟨wd.heap.size, 0, none⟩) 1 (pr q) from Reads.of_blk (Blk.new wd 80 #[.int .i64 q.1, .int .i64 q.2]) rfl rfl)
          have HS := Lib.hid (HBD.out.size)
          clear hwd hbd m2 y0 y1 hod hwa hE
          go_wp2_with (at_builtin; refine wpList_append_any _ rfl (.tmp 38) (.tmp 46) 62 rfl W1.heap.size 80 i0 _ 2 16 Try.underlying62 hi hz0 hz1 hz2 rfl (by decide) (.slice A9 fk.length c9) fk.length (fk.flatMap pr) rfl HOa.out _ (some ⟨wd.heap.size, 0, none⟩) 1 1 (pr q) rfl HR1.out (prOne _) ?c1 ?c2 ?c3 ?_)
          case c1 => simp only [maxLen]; omega
          case c2 => omega
          case c3 => have := HS.out; simp; omega
          intro v8 w8 hown8 hgr8 hat8
          obtain ⟨A8, c8, rfl, -, -⟩ := own_form hown8
          have hb8 : Below W1.heap.size W1 w8 := (HBD.out.alloc HBD.out.size _).grown hgr8 (HBD.out.alloc HBD.out.size _).size (fun x ex => (HOa.out.lt x ex).1)
          have HB8 := Lib.hid hb8
          have HO8 := Lib.hid hown8
          clear hown8 hgr8 hat8 hb8 m3 y3 y4
          go_wp2_with fail
          go_roundw
          case rel =>
            have h9 := HTK.out
            rw [if_pos HKP.out] at h9
            have hl : (fk ++ [q]).length = fk.length + 1 := by simp
            exact ⟨k + 1, A8, c8, by omega, by go_num, by rw [h9, hl], HB8.out, by rw [h9, hl, List.flatMap_append, List.flatMap_singleton]; exact HO8.out⟩
          case measure => simp [intOf]; omega
      · have hkl : k = cl.length := by omega
        have hft : (cl.take k).filter (keepP p) = cl.filter (keepP p) := by rw [hkl, List.take_length]
        rw [hft] at HO9 ⊢
        have hF := ref_setcuts (K' := K) HH.out HBW.out (cl' := cl.filter (keepP p)) (own_low HO9.out HB2.out.size) (Nat.le_trans (List.length_filter_le _ _) hclK) HAN.out
        have HF := Lib.hid hF
        generalize (cl.filter (keepP p)).length = fl at HF ⊢
        clear hrw hkl hft hF
        go_wp2_with fail
        go_ret
        exact ⟨rfl, HF.out⟩
end Go.Proofs.Ytfmflbcmigiciaa
