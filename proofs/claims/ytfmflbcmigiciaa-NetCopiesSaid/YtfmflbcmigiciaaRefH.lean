/- Chapter 05: the document's net: Cut. -/
import Derived.Test.YtfmflbcmigiciaaRefG
namespace Go.Proofs.Ytfmflbcmigiciaa
open Go.RowKit

theorem info80 : (Try.prog.info? 80).map (fun i => (i.zero, i.size, i.bytes)) = some (some (.agg #[.int .i64 0, .int .i64 0]), 2, 16) := by kernel_rfl
theorem prOne (p : Int × Int) : ∀ u ∈ pr p, u.oneCell' = true := by
  intro u hu
  simp only [pr, List.mem_cons, List.not_mem_nil, or_false] at hu
  rcases hu with rfl | rfl <;> rfl
theorem linkP_eq {a b a' b' : Int} : linkP a' b' = linkP a b ↔ (a' = a ∧ b' = b) ∨ (a' = b ∧ b' = a) := by
  unfold linkP
  rw [Prod.mk.injEq]
  omega
theorem cutP_at {N a b a' b' : Int} {cut : Nat → Nat → Bool} {v : Bool} (h : twoB N a b = true) (h' : twoB N a' b' = true) : cutP N cut a b v a'.toNat b'.toNat = if linkP a' b' = linkP a b then v else cut a'.toNat b'.toNat := by
  have h1 : 1 ≤ a ∧ a ≤ N ∧ 1 ≤ b ∧ b ≤ N ∧ a ≠ b := of_decide_eq_true h
  have h2 : 1 ≤ a' ∧ a' ≤ N ∧ 1 ≤ b' ∧ b' ≤ N ∧ a' ≠ b' := of_decide_eq_true h'
  unfold cutP
  rw [if_pos h]
  unfold setCut
  by_cases hl : linkP a' b' = linkP a b
  · rw [if_pos hl]
    rcases linkP_eq.1 hl with ⟨rfl, rfl⟩ | ⟨rfl, rfl⟩
    · by_cases hx : a'.toNat = b'.toNat ∧ b'.toNat = a'.toNat
      · rw [if_pos hx]
      · rw [if_neg hx, if_pos ⟨rfl, rfl⟩]
    · rw [if_pos ⟨rfl, rfl⟩]
  · rw [if_neg hl]
    have hn : ¬ ((a' = a ∧ b' = b) ∨ (a' = b ∧ b' = a)) := fun h => hl (linkP_eq.2 h)
    rw [if_neg (by omega), if_neg (by omega)]
theorem agr_cut {N a b : Int} {cut : Nat → Nat → Bool} {cl : List (Int × Int)} (h : Agr N cut cl) (ht : twoB N a b = true) {cl' : List (Int × Int)} (hm : ∀ p, p ∈ cl' ↔ p ∈ cl ∨ p = linkP a b) : Agr N (cutP N cut a b true) cl' := by
  intro a' b' h'
  rw [cutP_at ht h', h a' b' h']
  by_cases hl : linkP a' b' = linkP a b
  · rw [if_pos hl]
    exact (decide_eq_true ((hm _).2 (.inr hl))).symm
  · rw [if_neg hl]
    by_cases hi : linkP a' b' ∈ cl
    · rw [decide_eq_true hi, decide_eq_true ((hm _).2 (.inl hi))]
    · rw [decide_eq_false hi, decide_eq_false fun hh => ((hm _).1 hh).elim hi hl]
theorem agr_heal {N a b : Int} {cut : Nat → Nat → Bool} {cl : List (Int × Int)} (h : Agr N cut cl) (ht : twoB N a b = true) {cl' : List (Int × Int)} (hm : ∀ p, p ∈ cl' ↔ p ∈ cl ∧ p ≠ linkP a b) : Agr N (cutP N cut a b false) cl' := by
  intro a' b' h'
  rw [cutP_at ht h', h a' b' h']
  by_cases hl : linkP a' b' = linkP a b
  · rw [if_pos hl]
    exact (decide_eq_false fun hh => ((hm _).1 hh).2 hl).symm
  · rw [if_neg hl]
    by_cases hi : linkP a' b' ∈ cl
    · rw [decide_eq_true hi, decide_eq_true ((hm _).2 ⟨hi, hl⟩)]
    · rw [decide_eq_false hi, decide_eq_false fun hh => hi ((hm _).1 hh).1]

theorem ref_setcuts {w w1 : World} {R : Nat → Prop} {M : Nat} {N : Int} {cut cut' : Nat → Nat → Bool} {bag : List Msg} {K K' : Nat} (h : RefAt w R M N cut bag K) (hb : Below w.heap.size w w1) {cl' : List (Int × Int)} {A9 : Option Addr} {c9 : Nat}
    (ho : w1.ownsRow w.heap.size 80 2 (.slice A9 cl'.length c9) cl'.length (cl'.flatMap pr)) (hle : cl'.length ≤ K') (ha : Agr N cut' cl') :
    Ref1 w (w1.setCell ⟨M, 2, none⟩ (.slice A9 cl'.length c9)) R M N cut' bag K' := by
  have hM := h.M_lt
  obtain ⟨Ab, cb, Ac, cc, rs0, cl, h1, h2, h3, h4, h5, h6, h7⟩ := h.ex
  have hu1 : Upd (fun _ => False) R (fun k => R k ∨ (Value.slice A9 cl'.length c9).ownBlock = some k) w w1 := (Upd.of_below h.lt hb).more _ (fun k hk => (ho.lt k hk).1) (fun k hk => (ho.lt k hk).2)
  have hoff : ¬ (R M ∨ (Value.slice A9 cl'.length c9).ownBlock = some M) := fun hh => hh.elim h.off fun hx => by have := (ho.lt M hx).1; omega
  have hf2 : Far (fun k => k = M) w1 (w1.setCell ⟨M, 2, none⟩ (.slice A9 cl'.length c9)) := (Far.refl (fun k => k = M) _).setCell (p := ⟨M, 2, none⟩) (.inl rfl) _
  have hu2 : Upd (fun k => k = M) (fun k => R k ∨ (Value.slice A9 cl'.length c9).ownBlock = some k) (fun k => R k ∨ (Value.slice A9 cl'.length c9).ownBlock = some k) w1 (w1.setCell ⟨M, 2, none⟩ (.slice A9 cl'.length c9)) :=
    ⟨hf2, fun k e hR => hoff (e ▸ hR), fun _ h => h, fun _ h => .inl h, fun k hk => Nat.lt_of_lt_of_le (hu1.lt k hk) hf2.size⟩
  have hB1 := h1.below hb hM
  refine ⟨_, ⟨(Far.of_below hb).trans hf2 fun _ _ h => h, fun k e hR => h.off (e ▸ hR), hu1.up, hu1.old, hu2.lt⟩, ⟨Ab, cb, A9, c9, rs0, cl', ?_, (h2.upd hu1).upd hu2, (h3.upd hu1).upd hu2, (rd_own ho fun k hk => .inr hk).upd hu2, hle, ha, h7⟩, h.lo, h.hi, h.len, hoff, hu2.lt⟩
  have := hB1.set_ 2 (.slice A9 cl'.length c9)
  simpa using this
theorem RefAt.moreK {w : World} {R : Nat → Prop} {M : Nat} {N : Int} {cut : Nat → Nat → Bool} {bag : List Msg} {K K' : Nat} (h : RefAt w R M N cut bag K) (hK : K ≤ K') : RefAt w R M N cut bag K' := by
  obtain ⟨Ab, cb, Ac, cc, rs0, cl, h1, h2, h3, h4, h5, h6, h7⟩ := h.ex
  exact ⟨⟨Ab, cb, Ac, cc, rs0, cl, h1, h2, h3, h4, Nat.le_trans h5 hK, h6, h7⟩, h.lo, h.hi, h.len, h.off, h.lt⟩
theorem Ref1.moreK {w w' : World} {R : Nat → Prop} {M : Nat} {N : Int} {cut : Nat → Nat → Bool} {bag : List Msg} {K K' : Nat} (h : Ref1 w w' R M N cut bag K) (hK : K ≤ K') : Ref1 w w' R M N cut bag K' := by
  obtain ⟨R', h1, h2⟩ := h
  exact ⟨R', h1, h2.moreK hK⟩
theorem cutP_no {N a b : Int} {cut : Nat → Nat → Bool} {v : Bool} (h : twoB N a b = false) : cutP N cut a b v = cut := by unfold cutP; rw [h]; rfl

set_option maxHeartbeats 4000000 in
theorem rCut_any {w : World} {R : Nat → Prop} {M : Nat} {N : Int} {cut : Nat → Nat → Bool} {bag : List Msg} {K : Nat} (h : RefAt w R M N cut bag K) (hK : K ≤ 1000000) (a b : Int) :
    Calls Try.prog 41 #[.pointer (some ⟨M, 0, none⟩), .int .i64 a, .int .i64 b] w fun e w' => e = .returned (.int .i64 (if twoB N a b = true then 0 else 1)) ∧ Ref1 w w' R M N (cutP N cut a b true) bag (K + 1) := by
  have HH := Lib.hid h
  obtain ⟨Ar, cr, Ac, cc, rs, cl, h1, h2, h3, h4, h5, h6, h7, h8⟩ := h.ex
  cases ht : twoB N a b with
  | false =>
    have C := Lib.hid (rlink_no M N a b _ _ w h1 ht)
    rw [cutP_no ht]
    simp only [Bool.false_eq_true, if_false]
    clear h h1 h2 h3 h4 h5 h6 h7 h8 ht
    go_enter Try.func41, Try.ntmps41
    go_wp2_with fail
    refine C.out.mono ?_
    rintro e w1 ⟨rfl, hb⟩
    have HF := Lib.hid ((Ref1.same HH.out (hb.alloc hb.size (.cells #[.int .i64 0, .int .i64 0] 80))).moreK (Nat.le_succ _))
    clear hb C
    go_wp2_with fail
    go_ret
    exact ⟨rfl, HF.out⟩
  | true =>
    have C := rlink_yes M N a b _ _ w h1 ht
    have hag : ∀ cl', (∀ q, q ∈ cl' ↔ q ∈ cl ∨ q = linkP a b) → Agr N (cutP N cut a b true) cl' := fun cl' hm => agr_cut h6 ht hm
    have HAG := Lib.hid hag
    generalize linkP a b = p at C HAG
    simp only [if_true]
    have CC := Lib.hid C
    have H1 := Lib.hid h1
    have H4 := Lib.hid h4.1
    have hml := h1.lt
    have hcl := Nat.le_trans h5 hK
    have hclK := h5
    by_cases hin : p ∈ cl
    · have hre : RefAt w R M N (cutP N cut a b true) bag (K + 1) := ⟨⟨Ar, cr, Ac, cc, rs, cl, h1, h2, h3, h4, by omega, HAG.out cl fun q => ⟨.inl, fun hq => hq.elim id fun e => e ▸ hin⟩, h7, h8⟩, h.lo, h.hi, h.len, h.off, h.lt⟩
      have HRE := Lib.hid hre
      have hdec : decide (p ∈ cl) = true := decide_eq_true hin
      have HDEC := Lib.hid hdec
      clear C h h1 h2 h3 h4 h5 h6 h7 h8 ht hag hre hin hdec
      go_enter Try.func41, Try.ntmps41
      go_wp2_with fail
      refine CC.out.mono ?_
      rintro e w1 ⟨rfl, hb⟩
      have hb2 := hb.alloc hb.size (.cells #[.int .i64 p.1, .int .i64 p.2] 80)
      have D := rcut_any M _ _ cl Ac cc p _ (H1.out.below hb2 H1.out.lt) ((H4.out.below hb2).more hb2.size) hcl
      rw [HDEC.out] at D
      have DD := Lib.hid D
      have HB2 := Lib.hid hb2
      clear hb hb2 CC D
      go_wp2_with fail
      refine DD.out.mono ?_
      rintro e w2 ⟨rfl, hb3⟩
      have HF := Lib.hid (Ref1.same HRE.out (HB2.out.trans (hb3.mono HB2.out.size)))
      clear hb3 DD
      go_wp2_with fail
      go_ret
      exact ⟨rfl, HF.out⟩
    · have hdec : decide (p ∈ cl) = false := decide_eq_false hin
      have HDEC := Lib.hid hdec
      have HAN := Lib.hid (HAG.out (cl ++ [p]) fun q => by simp)
      clear C h h1 h2 h3 h4 h5 h6 h7 h8 ht hag hin hdec
      go_enter Try.func41, Try.ntmps41
      go_wp2_with fail
      refine CC.out.mono ?_
      rintro e w1 ⟨rfl, hb⟩
      obtain ⟨W1, hW1⟩ : ∃ W1, W1 = w1.alloc (.cells #[.int .i64 p.1, .int .i64 p.2] 80) := ⟨_, rfl⟩
      have hb12 : Below w1.heap.size w1 W1 := by rw [hW1]; exact (Below.refl _ _).alloc (Nat.le_refl _) _
      have kb1 : Blk W1 w1.heap.size 80 #[.int .i64 p.1, .int .i64 p.2] := by rw [hW1]; exact Blk.new _ _ _
      have hb2 := hb.trans (hb12.mono hb.size)
      have D := rcut_any M _ _ cl Ac cc p _ (H1.out.below hb2 H1.out.lt) ((H4.out.below hb2).more hb2.size) hcl
      rw [HDEC.out] at D
      have DD := Lib.hid D
      have HB2 := Lib.hid hb2
      have KB1 := Lib.hid kb1
      clear hb hb2 CC D hb12 kb1
      go_wp2_with fail
      rw [← hW1]
      clear hW1
      refine DD.out.mono ?_
      rintro e W2 ⟨rfl, hb3⟩
      have hb2 := HB2.out.trans (hb3.mono HB2.out.size)
      have hm2 := H1.out.below hb2 hml
      have m2 := hm2.cell 2
      have ml := hm2.lt
      have mf := hm2.frozen
      have kb := KB1.out.below hb3 KB1.out.lt
      have q0 := kb.cell 0
      have q1 := kb.cell 1
      have ql := kb.lt
      clear HB2 hm2 kb hb3 DD
      have HB2 := Lib.hid hb2
      have H24 := Lib.hid ((H4.out.below hb2).more hb2.size)
      clear hb2
      go_wp2_with fail
      obtain ⟨i0, hi, hz0, hz1, hz2⟩ := info_parts info80
      have hc1 : 0 + cl.length ≤ maxLen := by simp only [maxLen]; omega
      have hc2 : (0 + cl.length) * 16 ≤ 140737488355328 := by omega
      have hc3 : cl.length + 1 ≤ maxLen := by simp only [maxLen]; omega
      have hc4 : (cl.length + 1) * 16 ≤ 140737488355328 := by omega
      have hmsg : ∀ w9 : World, Below W2.heap.size W2 w9 → w9.cell? ⟨w1.heap.size, 0, none⟩ = some (.int .i64 p.1) ∧ w9.cell? ⟨w1.heap.size, 1, none⟩ = some (.int .i64 p.2) ∧ w1.heap.size < w9.heap.size ∧ w9.cell? ⟨M, 2, none⟩ = some (.slice Ac cl.length cc) ∧ M < w9.heap.size ∧ ∀ i, w9.frozen? ⟨M, i, none⟩ = false := fun w9 hb9 => by
        have hM9 := (H1.out.below HB2.out hml).below hb9 ml
        exact ⟨(hb9.cell (p := ⟨w1.heap.size, 0, none⟩) ql).trans q0, (hb9.cell (p := ⟨w1.heap.size, 1, none⟩) ql).trans q1, Nat.lt_of_lt_of_le ql hb9.size, hM9.cell 2, hM9.lt, hM9.frozen⟩
      have HMSG := Lib.hid hmsg
      clear hmsg
      go_region_law (first
        | (refine step_append_any _ rfl (.tmp 23) (.tmp 27) 62 rfl W2.heap.size 80 i0 _ 2 16 Try.underlying62 hi hz0 hz1 hz2 rfl (by decide) _ 0 [] rfl (lit_own ?b1 ?b2) W2.heap.size Ac cl.length cc (cl.flatMap pr) rfl (H24.out.below ?b3) (pr_one _) hc1 hc2 ?b4 ?_
           case b1 => first | exact Blk.new W2 80 #[] | exact (Blk.new W2 80 #[]).alloc _ | exact blk_newAt (by simp) 80 #[]
           case b2 => first | exact Nat.le_refl _ | exact Nat.le_succ _
           case b3 => first | exact below_a1 _ | exact below_a2 _ _
           case b4 => first | exact (below_a1 _).size | exact (below_a2 _ _).size
           intro v9 w9 hown9 hgr9 hat9
           rw [Nat.zero_add, List.nil_append] at hown9
           have hb9 : Below W2.heap.size W2 w9 := by
             first
               | exact (below_a1 _).grown hgr9 (below_a1 _).size (fun x ex => by cases ex; first | exact Nat.le_refl _ | exact Nat.le_succ _)
               | exact (below_a2 _ _).grown hgr9 (below_a2 _ _).size (fun x ex => by cases ex; first | exact Nat.le_refl _ | exact Nat.le_succ _)
           obtain ⟨z0, z1, zl, n1, nl, nf⟩ := HMSG.out w9 hb9
           have HB9 := Lib.hid hb9
           first
             | (have HK9 := Lib.hid (Blk.grown (w := ((W2.alloc (.cells #[] 80)).alloc (.cells #[.int .i64 p.1, .int .i64 p.2] 80)).drew) (g := W2.heap.size + 1) (t := 80) (cs := #[.int .i64 p.1, .int .i64 p.2]) (blk_newAt (by simp) 80 _) hgr9 (fun ex => by have := Option.some.inj (show some (W2.heap.size + 1) = some W2.heap.size from ex); omega)))
             | (have HK9 := Lib.hid (Blk.grown (w := ((W2.alloc (.cells #[.int .i64 p.1, .int .i64 p.2] 80)).alloc (.cells #[] 80)).drew) (g := W2.heap.size) (t := 80) (cs := #[.int .i64 p.1, .int .i64 p.2]) ((Blk.new W2 80 #[.int .i64 p.1, .int .i64 p.2]).alloc _) hgr9 (fun ex => by have := Option.some.inj (show some W2.heap.size = some (W2.heap.size + 1) from ex); omega)))
             | skip
           obtain ⟨A9, c9, rfl, hd1, hd2⟩ := own_form hown9
           have HO9 := Lib.hid hown9
           clear hown9 hgr9 hat9 hb9)
        | (refine step_append_any _ rfl (.tmp 28) (.tmp 30) 62 rfl W2.heap.size 80 i0 _ 2 16 Try.underlying62 hi hz0 hz1 hz2 rfl (by decide) _ cl.length (cl.flatMap pr) rfl HO9.out w9.heap.size _ 1 1 (pr p) rfl (by exact Reads.of_blk HK9.out rfl rfl) (prOne _) hc3 hc4 HB9.out.size ?_
           intro v8 w8 hown8 hgr8 hat8
           have hb8 : Below W2.heap.size W2 w8 := HB9.out.grown hgr8 HB9.out.size (fun x ex => (HO9.out.lt x ex).1)
           clear z0 z1 zl n1 nl nf
           obtain ⟨-, -, -, n1, nl, nf⟩ := HMSG.out w8 hb8
           obtain ⟨A8, c8, rfl, hf1, hf2⟩ := own_form hown8
           have HO8 := Lib.hid hown8
           have HB8 := Lib.hid hb8
           clear hown8 hgr8 hat8 hb8)
        | (refine step_append_any _ rfl (.tmp 28) (.tmp 30) 62 rfl W2.heap.size 80 i0 _ 2 16 Try.underlying62 hi hz0 hz1 hz2 rfl (by decide) _ cl.length (cl.flatMap pr) rfl (own_below0 HO9.out ((Below.refl _ _).alloc (Nat.le_refl _) _)) (w9.alloc (.cells #[.int .i64 p.1, .int .i64 p.2] 80)).heap.size _ 1 1 (pr p) rfl (by exact Reads.of_blk (Blk.new w9 80 #[.int .i64 p.1, .int .i64 p.2]) rfl rfl) (prOne _) hc3 hc4 (HB9.out.alloc HB9.out.size _).size ?_
           intro v8 w8 hown8 hgr8 hat8
           have hb8 : Below W2.heap.size W2 w8 := (HB9.out.alloc HB9.out.size _).grown hgr8 (HB9.out.alloc HB9.out.size _).size (fun x ex => (HO9.out.lt x ex).1)
           clear z0 z1 zl n1 nl nf
           obtain ⟨-, -, -, n1, nl, nf⟩ := HMSG.out w8 hb8
           obtain ⟨A8, c8, rfl, hf1, hf2⟩ := own_form hown8
           have HO8 := Lib.hid hown8
           have HB8 := Lib.hid hb8
           clear hown8 hgr8 hat8 hb8))
      all_goals
        have hwa := HB2.out.trans (HB8.out.mono HB2.out.size)
        have hl8 : (cl ++ [p]).length = cl.length + 1 := by simp
        have hF := ref_setcuts (K' := K + 1) HH.out hwa (A9 := A8) (c9 := c8) (cl' := cl ++ [p]) (by rw [hl8, List.flatMap_append, List.flatMap_singleton]; exact own_low HO8.out HB2.out.size) (by omega) HAN.out
        rw [hl8] at hF
        have HF := Lib.hid hF
        clear hwa hF n1 nl nf hl8
        go_wp2_with fail
        go_ret
        exact ⟨rfl, HF.out⟩
end Go.Proofs.Ytfmflbcmigiciaa
