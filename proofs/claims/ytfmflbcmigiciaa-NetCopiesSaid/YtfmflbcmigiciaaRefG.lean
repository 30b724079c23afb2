/- Chapter 05: the document's net: Double. -/
import Derived.Test.YtfmflbcmigiciaaRefF
namespace Go.Proofs.Ytfmflbcmigiciaa
open Go.RowKit

theorem lit_own {W : World} {g base : Nat} {e : TypeId} {s : Nat} (hb : Blk W g e #[]) (hg : base ≤ g) : W.ownsRow base e s (.slice (some ⟨g, 0, none⟩) 0 0) 0 [] :=
  ⟨by simp, .inr ⟨g, 0, #[], rfl, hg, hb, Nat.le_refl _, Nat.zero_le _, by simp, by simp⟩⟩
theorem below_a1 {W : World} (o : Obj) : Below W.heap.size W (W.alloc o).drew := ((Below.refl _ _).alloc (Nat.le_refl _) _).drew
theorem below_a2 {W : World} (o o' : Obj) : Below W.heap.size W ((W.alloc o).alloc o').drew := (((Below.refl _ _).alloc (Nat.le_refl _) _).alloc (by simp) _).drew

theorem dbl_fin {w w8 : World} {R : Nat → Prop} {M : Nat} {N : Int} {cut : Nat → Nat → Bool} {bag : List Msg} {K : Nat} {rs : List Raw} {m : Msg} {A' A8 : Option Addr} {c' c8 : Nat} (h : RefAt w R M N cut bag K) (hb : Below w.heap.size w w8) (h3 : MsgsAt R w rs bag) (hrd : RD R w 1 A' m.bs.length (m.bs.map (.int .u8))) (hle : m.bs.length ≤ 1000000000) (hn : bag.length + 1 ≤ 64)
    (ho : w8.ownsRow w.heap.size 33 3 (.slice A8 (bag.length + 1) c8) (bag.length + 1) (rs.flatMap Raw.cs ++ Raw.cs ⟨m.f, m.t, A', m.bs.length, c'⟩)) : Ref1 w (w8.setCell ⟨M, 1, none⟩ (.slice A8 (bag.length + 1) c8)) R M N cut (bag ++ [m]) K := by
  have hu := Upd.of_below h.lt hb
  have hl : (bag ++ [m]).length = bag.length + 1 := by simp
  have hms : MsgsAt (fun x => R x ∨ False) w8 (rs ++ [(⟨m.f, m.t, A', m.bs.length, c'⟩ : Raw)]) (bag ++ [m]) :=
    MsgsAt.snoc ((h3.upd hu).moreR fun _ h => .inl h) (show MsgAt _ w8 ⟨m.f, m.t, A', m.bs.length, c'⟩ m from ⟨rfl, rfl, rfl, hle, (hrd.upd hu).moreR fun _ h => .inl h⟩)
  have := ref_setbag h hb (Y := fun _ => False) (fun _ h => h.elim) hms (A9 := A8) (c9 := c8) (by rw [hl, List.flatMap_append, List.flatMap_singleton]; exact ho) (by omega)
  rw [hl] at this
  exact this

set_option maxHeartbeats 4000000 in
theorem rdouble_any {w : World} {R : Nat → Prop} {M : Nat} {N : Int} {cut : Nat → Nat → Bool} {bag : List Msg} {K : Nat} (h : RefAt w R M N cut bag K) (i : Int) :
    Calls Try.prog 40 #[.pointer (some ⟨M, 0, none⟩), .int .i64 i] w fun e w' => e = .returned (.int .i64 (dblP bag i).1) ∧ Ref1 w w' R M N cut (dblP bag i).2 K := by
  have C := rat_any h i
  have HH := Lib.hid h
  unfold dblP
  cases ha : atP bag i with
  | none =>
    rw [atR_none ha] at C
    have CC := Lib.hid C
    clear C ha h
    go_enter Try.func40, Try.ntmps40
    go_wp2_with fail
    refine CC.out.mono ?_
    rintro e w1 ⟨A', c', rfl, hb, -⟩
    have HF := Lib.hid (Ref1.same HH.out (hb.alloc hb.size (.cells #[.int .i64 m0.f, .int .i64 m0.t, .slice A' m0.bs.length c'] 33)))
    unfold msgV
    clear hb CC
    go_wp2_with fail
    go_ret
    exact ⟨rfl, HF.out⟩
  | some m =>
    rw [atR_some ha] at C
    have CC := Lib.hid C
    obtain ⟨k, rfl, hk, hkm⟩ := atP_some ha
    obtain ⟨Ar, cr, Ac, cc, rs, cl, h1, h2, h3, h4, h5, h6, h7, h8⟩ := h.ex
    have H1 := Lib.hid h1
    have H2 := Lib.hid h2
    have H3 := Lib.hid h3
    have hml := h1.lt
    have hrl := h3.1
    have hlen := h.len
    have hle : m.bs.length ≤ 1000000000 := by
      obtain ⟨_, _, _, _, hle⟩ := h3.get hkm
      exact hle
    clear C ha hkm h1 h2 h3 h4 h5 h6 h7 h8 h
    by_cases hfull : 64 ≤ bag.length
    · have d2 : decide ((64 : Int) ≤ bag.length) = true := decide_eq_true (by omega)
      simp only [if_pos hfull]
      go_enter Try.func40, Try.ntmps40
      go_wp2_with fail
      refine CC.out.mono ?_
      rintro e w1 ⟨A', c', rfl, hb, -⟩
      have hb2 := hb.alloc hb.size (.cells #[.int .i64 m.f, .int .i64 m.t, .slice A' m.bs.length c'] 33)
      have HF := Lib.hid (Ref1.same HH.out hb2)
      have hm2 := H1.out.below hb hml
      have m1 := hm2.cell 1
      have ml := hm2.lt
      unfold msgV
      clear hb CC hb2 hm2
      go_wp2_with fail
      go_ret
      exact ⟨rfl, HF.out⟩
    · have d2 : decide ((64 : Int) ≤ bag.length) = false := decide_eq_false (by omega)
      simp only [if_neg hfull]
      go_enter Try.func40, Try.ntmps40
      go_wp2_with fail
      refine CC.out.mono ?_
      rintro e w1 ⟨A', c', rfl, hb, hrd⟩
      obtain ⟨W2, hW2⟩ : ∃ W2, W2 = w1.alloc (.cells #[.int .i64 m.f, .int .i64 m.t, .slice A' m.bs.length c'] 33) := ⟨_, rfl⟩
      have hb12 : Below w1.heap.size w1 W2 := by rw [hW2]; exact (Below.refl _ _).alloc (Nat.le_refl _) _
      have kb : Blk W2 w1.heap.size 33 #[.int .i64 m.f, .int .i64 m.t, .slice A' m.bs.length c'] := by rw [hW2]; exact Blk.new _ _ _
      have hb2 := hb.trans (hb12.mono hb.size)
      have hm2 := H1.out.below hb2 hml
      have m1 := hm2.cell 1
      have ml := hm2.lt
      have mf := hm2.frozen
      obtain ⟨q0, q1, q2⟩ := blk_cell3 kb
      have ql := kb.lt
      have HB2 := Lib.hid hb2
      have HRD := Lib.hid hrd
      have H22 := Lib.hid ((H2.out.1.below hb2).more hb2.size)
      unfold msgV
      have hm1 := H1.out.below hb hml
      have n1 := hm1.cell 1
      have nl := hm1.lt
      clear hb CC hb12 hm2 hrd kb hb2 hm1
      go_wp2_with fail
      rw [← hW2]
      clear hW2 n1 nl
      obtain ⟨i0, hi, hz0, hz1, hz2⟩ := info_parts info33
      have hc1 : 0 + bag.length ≤ maxLen := by simp only [maxLen]; omega
      have hc2 : (0 + bag.length) * 40 ≤ 140737488355328 := by omega
      have hc3 : bag.length + 1 ≤ maxLen := by simp only [maxLen]; omega
      have hc4 : (bag.length + 1) * 40 ≤ 140737488355328 := by omega
      have hmsg : ∀ w9 : World, Below W2.heap.size W2 w9 → w9.cell? ⟨w1.heap.size, 0, none⟩ = some (.int .i64 m.f) ∧ w9.cell? ⟨w1.heap.size, 1, none⟩ = some (.int .i64 m.t) ∧ w9.cell? ⟨w1.heap.size, 2, none⟩ = some (.slice A' m.bs.length c') ∧ w1.heap.size < w9.heap.size ∧ w9.cell? ⟨M, 1, none⟩ = some (.slice Ar bag.length cr) ∧ M < w9.heap.size ∧ ∀ i, w9.frozen? ⟨M, i, none⟩ = false := fun w9 hb9 => by
        have hM9 := (H1.out.below HB2.out hml).below hb9 ml
        exact ⟨(hb9.cell (p := ⟨w1.heap.size, 0, none⟩) ql).trans q0, (hb9.cell (p := ⟨w1.heap.size, 1, none⟩) ql).trans q1, (hb9.cell (p := ⟨w1.heap.size, 2, none⟩) ql).trans q2, Nat.lt_of_lt_of_le ql hb9.size, hM9.cell 1, hM9.lt, hM9.frozen⟩
      have HMSG := Lib.hid hmsg
      clear hmsg
      go_region_law (first
        | (refine step_append_any _ rfl (.tmp 23) (.tmp 27) 39 rfl W2.heap.size 33 i0 _ 3 40 Try.underlying39 hi hz0 hz1 hz2 rfl (by decide) _ 0 [] rfl (lit_own ?b1 ?b2) W2.heap.size Ar bag.length cr (rs.flatMap Raw.cs) rfl (H22.out.below ?b3) (raw_one _) hc1 hc2 ?b4 ?_
           case b1 => first | exact Blk.new W2 33 #[] | exact (Blk.new W2 33 #[]).alloc _ | exact blk_newAt (by simp) 33 #[]
           case b2 => first | exact Nat.le_refl _ | exact Nat.le_succ _
           case b3 => first | exact below_a1 _ | exact below_a2 _ _
           case b4 => first | exact (below_a1 _).size | exact (below_a2 _ _).size
           intro v9 w9 hown9 hgr9 hat9
           rw [Nat.zero_add, List.nil_append] at hown9
           have hb9 : Below W2.heap.size W2 w9 := by
             first
               | exact (below_a1 _).grown hgr9 (below_a1 _).size (fun x ex => by cases ex; first | exact Nat.le_refl _ | exact Nat.le_succ _)
               | exact (below_a2 _ _).grown hgr9 (below_a2 _ _).size (fun x ex => by cases ex; first | exact Nat.le_refl _ | exact Nat.le_succ _)
           obtain ⟨z0, z1, z2, zl, n1, nl, nf⟩ := HMSG.out w9 hb9
           have HB9 := Lib.hid hb9
           first
             | (have HK9 := Lib.hid (Blk.grown (w := ((W2.alloc (.cells #[] 33)).alloc (.cells #[.int .i64 m.f, .int .i64 m.t, .slice A' m.bs.length c'] 33)).drew) (g := W2.heap.size + 1) (t := 33) (cs := #[.int .i64 m.f, .int .i64 m.t, .slice A' m.bs.length c']) (blk_newAt (by simp) 33 _) hgr9 (fun ex => by have := Option.some.inj (show some (W2.heap.size + 1) = some W2.heap.size from ex); omega)))
             | (have HK9 := Lib.hid (Blk.grown (w := ((W2.alloc (.cells #[.int .i64 m.f, .int .i64 m.t, .slice A' m.bs.length c'] 33)).alloc (.cells #[] 33)).drew) (g := W2.heap.size) (t := 33) (cs := #[.int .i64 m.f, .int .i64 m.t, .slice A' m.bs.length c']) ((Blk.new W2 33 #[.int .i64 m.f, .int .i64 m.t, .slice A' m.bs.length c']).alloc _) hgr9 (fun ex => by have := Option.some.inj (show some W2.heap.size = some (W2.heap.size + 1) from ex); omega)))
             | skip
           obtain ⟨A9, c9, rfl, hd1, hd2⟩ := own_form hown9
           have HO9 := Lib.hid hown9
           clear hown9 hgr9 hat9 hb9)
        | (refine step_append_any _ rfl (.tmp 28) (.tmp 30) 39 rfl W2.heap.size 33 i0 _ 3 40 Try.underlying39 hi hz0 hz1 hz2 rfl (by decide) _ bag.length (rs.flatMap Raw.cs) rfl HO9.out w9.heap.size _ 1 1 (Raw.cs ⟨m.f, m.t, A', m.bs.length, c'⟩) rfl (by exact Reads.of_blk HK9.out rfl rfl) (rawOne _) hc3 hc4 HB9.out.size ?_
           intro v8 w8 hown8 hgr8 hat8
           have hb8 : Below W2.heap.size W2 w8 := HB9.out.grown hgr8 HB9.out.size (fun x ex => (HO9.out.lt x ex).1)
           clear z0 z1 z2 zl n1 nl nf
           obtain ⟨-, -, -, -, n1, nl, nf⟩ := HMSG.out w8 hb8
           obtain ⟨A8, c8, rfl, hf1, hf2⟩ := own_form hown8
           have HO8 := Lib.hid hown8
           have HB8 := Lib.hid hb8
           clear hown8 hgr8 hat8 hb8)
        | (refine step_append_any _ rfl (.tmp 28) (.tmp 30) 39 rfl W2.heap.size 33 i0 _ 3 40 Try.underlying39 hi hz0 hz1 hz2 rfl (by decide) _ bag.length (rs.flatMap Raw.cs) rfl (own_below0 HO9.out ((Below.refl _ _).alloc (Nat.le_refl _) _)) (w9.alloc (.cells #[.int .i64 m.f, .int .i64 m.t, .slice A' m.bs.length c'] 33)).heap.size _ 1 1 (Raw.cs ⟨m.f, m.t, A', m.bs.length, c'⟩) rfl (by exact Reads.of_blk (Blk.new w9 33 #[.int .i64 m.f, .int .i64 m.t, .slice A' m.bs.length c']) rfl rfl) (rawOne _) hc3 hc4 (HB9.out.alloc HB9.out.size _).size ?_
           intro v8 w8 hown8 hgr8 hat8
           have hb8 : Below W2.heap.size W2 w8 := (HB9.out.alloc HB9.out.size _).grown hgr8 (HB9.out.alloc HB9.out.size _).size (fun x ex => (HO9.out.lt x ex).1)
           clear z0 z1 z2 zl n1 nl nf
           obtain ⟨-, -, -, -, n1, nl, nf⟩ := HMSG.out w8 hb8
           obtain ⟨A8, c8, rfl, hf1, hf2⟩ := own_form hown8
           have HO8 := Lib.hid hown8
           have HB8 := Lib.hid hb8
           clear hown8 hgr8 hat8 hb8))
      all_goals
        have hwa := HB2.out.trans (HB8.out.mono HB2.out.size)
        have hF := dbl_fin HH.out hwa H3.out HRD.out hle (by omega) (own_low HO8.out HB2.out.size)
        have HF := Lib.hid hF
        clear hwa hF n1 nl nf
        go_wp2_with fail
        go_ret
        exact ⟨rfl, HF.out⟩
end Go.Proofs.Ytfmflbcmigiciaa
