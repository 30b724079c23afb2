/- Chapter 14: a fragment renewed (stripe.Renew). -/
import Derived.Test.YtcmidhecmhbeoaaRenA
namespace Go.Proofs.Ytcmidhecmhbeoaa
open Go.RowKit

/-- Where the first loop stands. -/
structure Ren1 (G : Nat) (W1 : World) (first : Int) (s : List Pl × List Pl × Bool) (vl : Value) (wr : World) : Prop where
  below : Below G W1 wr
  row : ∃ A c, Blk wr G 25 #[.int .u64 first, .slice A s.1.length c] ∧ RowG wr G A s.1 c ∧ ∀ k ad, vl.ownBlock = some k → A = some ad → ad.block ≠ k
  left : wr.ownsRow (G + 1) 37 2 vl s.2.1.length (s.2.1.flatMap Pl.cs)

theorem Ren1.later {G : Nat} {W1 : World} {first : Int} {s : List Pl × List Pl × Bool} {vl : Value} {wr w' : World} (h : Ren1 G W1 first s vl wr) (hG : G < W1.heap.size) (hb : Below wr.heap.size wr w') : Ren1 G W1 first s vl w' := by
  obtain ⟨p1, ⟨A, c, q1, q2, q3⟩, r⟩ := h
  have := p1.size
  exact ⟨p1.trans (hb.mono (by omega)), ⟨A, c, q1.below hb q1.lt, q2.below (by omega) hb, q3⟩, own_below r hb⟩
theorem Ren1.put {G : Nat} {W1 : World} {first : Int} {s : List Pl × List Pl × Bool} {vl : Value} {w : World} (h : Ren1 G W1 first s vl w) (b : List Pl) (A : Option Addr) (c : Nat) (sm : Bool) (hrow : RowG w G A b c) (hdis : ∀ k ad, vl.ownBlock = some k → A = some ad → ad.block ≠ k) :
    Ren1 G W1 first (b, s.2.1, sm) vl ((w.setCell ⟨G, 0, none⟩ (.int .u64 first)).setCell ⟨G, 1, none⟩ (.slice A b.length c)) := by
  obtain ⟨p1, ⟨A0, c0, q1, q2, q3⟩, r⟩ := h
  refine ⟨below_set2 p1 (Nat.le_refl _) _ _, ⟨A, c, blk_set2 q1 _ _, (hrow.setG (p := ⟨G, 0, none⟩) rfl _).setG (p := ⟨G, 1, none⟩) rfl _, hdis⟩, ?_⟩
  exact ownsRow_setCell_below (ownsRow_setCell_below r (a := ⟨G, 0, none⟩) (Nat.lt_succ_self _) _) (a := ⟨G, 1, none⟩) (Nat.lt_succ_self _) _
theorem Ren1.app {G : Nat} {W1 : World} {first : Int} {s : List Pl × List Pl × Bool} {vl v' : Value} {w w8 : World} {x : Pl} (h : Ren1 G W1 first s vl w) (hG : G < W1.heap.size) (hpos : 0 < s.1.length) (o : Obj)
    (hown : w8.ownsRow (G + 1) 37 2 v' (s.2.1.length + 1) (s.2.1.flatMap Pl.cs ++ x.cs)) (hgr : (w.alloc o).grownBy w8 vl.ownBlock) (n : Nat) (hn : (w.alloc o).heap.size = n) (hat : v'.ownBlock = vl.ownBlock ∨ v'.ownBlock = some n) : Ren1 G W1 first (s.1, s.2.1 ++ [x], s.2.2) v' w8 := by
  subst hn
  obtain ⟨p1, ⟨A0, c0, q1, q2, q3⟩, r⟩ := h
  have hs := p1.size
  have hlt := r.lt
  have hrw : RowG (w.alloc o) G A0 s.1 c0 := q2.below (by omega) ((Below.refl _ _).alloc (Nat.le_refl _) _)
  have hsa : (w.alloc o).heap.size = w.heap.size + 1 := by simp
  refine ⟨(p1.alloc (by omega) o).grown hgr (by omega) (fun k e => by have := hlt k e; omega), ⟨A0, c0, (q1.alloc o).grown hgr (fun e => by have := hlt G e.symm; omega), hrw.grown (by omega) hgr (fun k e => ⟨by have := hlt k e; omega, fun ad ha => q3 k ad e ha⟩), fun k ad hk ha => ?_⟩, ?_⟩
  · rcases hat with hat | hat
    · exact q3 k ad (hat.symm.trans hk) ha
    · rw [hat] at hk
      injection hk with hk
      have := q2.lt hpos (by omega) ad ha
      omega
  · rw [List.flatMap_append, List.flatMap_singleton, List.length_append]; exact hown
theorem Ren2.moved {G B2 : Nat} {W1 : World} {first : Int} {b : List Pl} {wr w' : World} (h : Ren2 G B2 W1 first b wr) (hG : G < B2) (hb : Below B2 wr w') (b' : List Pl) {A : Option Addr} {n c : Nat} (hn : b'.length = n) (hown : w'.ownsRow B2 37 2 (.slice A n c) n (b'.flatMap Pl.cs)) : Ren2 G B2 W1 first b' (w'.setCell ⟨G, 1, none⟩ (.slice A n c)) := by
  subst hn
  obtain ⟨p1, p2, A0, c0, q1, q2⟩ := h
  refine ⟨(p1.trans (hb.mono (by omega))).setCell (Nat.le_refl _) _, by rw [size_setCell]; exact Nat.le_trans p2 hb.size, A, c, ?_, ownsRow_setCell_below hown hG _⟩
  have := (q1.below hb hG).set_ 1 (.slice A b'.length c)
  simpa using this
theorem ph1_no {bad good : List Pl} {st : List Pl × List Pl × Bool} {x : Pl} (h : x ∉ bad) : ph1 bad good st x = st := by unfold ph1; rw [if_neg h]
theorem ph1_some {bad good b : List Pl} {st : List Pl × List Pl × Bool} {x : Pl} (h : x ∈ bad) (hr : repL st.1 x good = some b) : ph1 bad good st x = (b, st.2.1, true) := by unfold ph1; rw [if_pos h, hr]
theorem ph1_none {bad good : List Pl} {st : List Pl × List Pl × Bool} {x : Pl} (h : x ∈ bad) (hr : repL st.1 x good = none) : ph1 bad good st x = (st.1, st.2.1 ++ [x], st.2.2) := by unfold ph1; rw [if_pos h, hr]

set_option maxRecDepth 100000 in
set_option maxHeartbeats 8000000 in
theorem renew_any (first W e : Int) (l bad kn : List Pl) (A A3 A4 : Option Addr) (c c3 c4 : Nat) (w : World) (h : PR w w.heap.size A l) (h3 : PR w w.heap.size A3 bad) (h4 : PR w w.heap.size A4 kn) (hl : l.length ≤ 1000) (hl3 : bad.length ≤ 1000) (hl4 : kn.length ≤ 1000) :
    Calls Try.prog 13 #[.agg #[.int .u64 first, .slice A l.length c], .int .i64 W, .int .i64 e, .slice A3 bad.length c3, .slice A4 kn.length c4] w fun e' w' => GivesF w first (renP l W e bad kn) e' w' := by
  have H := Lib.hid h
  have H3 := Lib.hid h3
  have H4 := Lib.hid h4
  clear h h3 h4
  obtain ⟨i0, hi, hz0, hz1, hz2⟩ := info_parts info37
  obtain ⟨W0, hW0⟩ : ∃ W0, W0 = ((w.alloc (.cells #[.int .u64 first, .slice A l.length c] 25)).alloc (.cells #[.slice A3 bad.length c3] 23)).alloc (.cells #[.int .u64 0, .slice none 0 0] 25) := ⟨_, rfl⟩
  have hb0 : Below w.heap.size w W0 := by rw [hW0]; exact (((Below.refl _ _).alloc (Nat.le_refl _) _).alloc (by simp) _).alloc (by simp; omega) _
  have hF : Blk W0 w.heap.size 25 #[.int .u64 first, .slice A l.length c] := by rw [hW0]; exact ((Blk.new _ _ _).alloc _).alloc _
  have hB : Blk W0 (w.heap.size + 1) 23 #[.slice A3 bad.length c3] := by rw [hW0]; exact (blk_newAt (by simp) _ _).alloc _
  have hR : Blk W0 (w.heap.size + 1 + 1) 25 #[.int .u64 0, .slice none 0 0] := by rw [hW0]; exact blk_newAt (by simp) _ _
  have HF := Lib.hid hF
  have HB := Lib.hid hB
  have HR := Lib.hid hR
  have hFl := hF.lt
  have hBl := hB.lt
  have hRl := hR.lt
  clear hF hB hR
  go_enter Try.func13, Try.ntmps13
  go_wp2_with fail
  rw [← hW0]
  clear hW0
  refine (clone_any kn A4 c4 _ W0 ((H4.out.below hb0).more hb0.size) (Nat.le_refl _) (by omega)).mono ?_
  rintro e1 w1 ⟨Ak, ck, rfl, hb1, hck1, hck2, ho1⟩
  have HO1 := Lib.hid ho1
  clear ho1
  go_wp2_with fail
  have hb01 := hb0.trans (hb1.mono hb0.size)
  have hxB := (HB.out.below hb1 hBl).cell 0
  refine (delf_any kn bad Ak A3 ck c3 (w.heap.size + 1) W0.heap.size w1 HO1.out hb1.size (by omega) hBl hxB ((H3.out.below hb01).more (by have := hb0.size; omega)) (by omega)).mono ?_
  rintro e2 w2 ⟨rfl, hb2, ho2⟩
  have hb02 : Below W0.heap.size W0 w2 := (hb1.mono (Nat.le_refl _)).trans hb2
  have hbw2 := hb0.trans (hb02.mono hb0.size)
  have HO2 := Lib.hid ho2
  have hsz2 := hb02.size
  have kF := HF.out.below hb02 hFl
  obtain ⟨f0, f1⟩ := blk_cell2 kF
  have fl := kF.lt
  clear ho2 hxB hb2 hb1 HO1 kF
  go_wp2_with fail
  obtain ⟨W1, hW1⟩ : ∃ W1, W1 = w2.alloc (.cells #[.int .u64 first, .slice A l.length c] 25) := ⟨_, rfl⟩
  have hb21 : Below w2.heap.size w2 W1 := by rw [hW1]; exact (Below.refl _ _).alloc (Nat.le_refl _) _
  have hG1 : Blk W1 w2.heap.size 25 #[.int .u64 first, .slice A l.length c] := by rw [hW1]; exact Blk.new _ _ _
  rw [← hW1]
  have hsW1 : W1.heap.size = w2.heap.size + 1 := by rw [hW1]; simp
  have hbW1 := hbw2.trans (hb21.mono hbw2.size)
  have hb0W1 := hb02.trans (hb21.mono hb02.size)
  have HPL := Lib.hid ((H.out.below hbW1).more (show w.heap.size ≤ w2.heap.size from hbw2.size))
  have HBX := Lib.hid (HB.out.below hb0W1 hBl)
  have HRX := Lib.hid (HR.out.below hb0W1 hRl)
  have HPB := Lib.hid ((H3.out.below hbW1).more (show w.heap.size ≤ w2.heap.size from hbw2.size))
  have HGD : Hid (PR W1 w2.heap.size Ak (keepL bad kn)) := Lib.hid ((Reads.of_own HO2.out).below hb21)
  have hkl := keepL_len bad kn
  obtain ⟨G, hG⟩ : ∃ G, w2.heap.size = G := ⟨_, rfl⟩
  rw [hG] at hG1 hsW1 HPL HPB HGD hb21
  have hHG : w.heap.size + 1 + 1 < G := by omega
  obtain ⟨gd, hgd⟩ : ∃ gd, keepL bad kn = gd := ⟨_, rfl⟩
  have hren : renP l W e bad kn = if (st2 W (st1 l bad gd l.length) (st1 l bad gd l.length).2.1.length).2 = true then some (st3 e (st2 W (st1 l bad gd l.length) (st1 l bad gd l.length).2.1.length).1 gd gd.length) else none := by unfold renP; rw [hgd]
  rw [hgd] at HGD hkl ⊢
  rw [hG]
  have hi1 : Ren1 G W1 first (st1 l bad gd 0) (.slice none 0 0) W1 := ⟨Below.refl _ _, ⟨A, c, hG1, .inl HPL.out, by rintro k ad ⟨⟩⟩, ⟨rfl, .inl ⟨rfl, rfl⟩⟩⟩
  have HI1 := Lib.hid hi1
  have HREN := Lib.hid hren
  have hsz0 : w.heap.size ≤ W0.heap.size := hb0.size
  clear hG1 hi1 hren hgd hW1 HO2 f0 f1 fl hG hb21 hb02 hb01 hb0W1
  go_loopw [12, 13, 16, 17, 31] (fun s v _ _ i wr => ∃ j : Nat, j ≤ l.length ∧ i = .int .i64 j ∧ (∃ sm, s = .bool sm ∧ (st1 l bad gd j).2.2 = sm) ∧ Ren1 G W1 first (st1 l bad gd j) v wr) (fun _ _ _ _ i _ => l.length - (intOf i).toNat)
  case atStart => exact ⟨0, Nat.zero_le _, rfl, ⟨false, rfl, rfl⟩, HI1.out⟩
  case round =>
    obtain ⟨j, hj, rfl, ⟨sm, rfl, hsm⟩, hinv⟩ := hrel
    have HSM := Lib.hid hsm
    clear hsm
    obtain ⟨hbr, ⟨Ab, cb, hGr, hrow, hdis⟩, hleft⟩ := hinv
    have hsr := hbr.size
    have hln1 := Nat.le_of_eq (st1_len l bad gd j hj).1
    have hln2 := (st1_len l bad gd j hj).2
    have HDIS := Lib.hid hdis
    have HROW := Lib.hid hrow
    have HLF := Lib.hid hleft
    have HGR := Lib.hid hGr
    obtain ⟨Al, cl, rfl, hcl1, hcl2⟩ := own_form hleft
    have hGl := hGr.lt
    clear hGr hrow hdis hleft
    by_cases hlt : j < l.length
    · obtain ⟨b, o, yn, ys, rfl, hBb, hy, y0, y1⟩ := pl_elem (HPL.out.below hbr) hlt
      have HST := Lib.hid (st1_succ (bad := bad) (good := gd) hy)
      clear hy
      have kB := HBX.out.below hbr (by omega)
      have bx0 := kB.cell 0
      have bxl := kB.lt
      clear kB
      go_wp2_with fail
      have hba : Below wr.heap.size wr (wr.alloc (.cells #[.int .i64 yn, .int .u64 ys] 37)) := (Below.refl _ _).alloc (Nat.le_refl _) _
      have C := Lib.hid (contains_any bad A3 c3 yn ys _ (wr.alloc (.cells #[.int .i64 yn, .int .u64 ys] 37)) (((HPB.out.below hbr).more (show G ≤ wr.heap.size by omega)).alloc (Nat.le_refl _) _) (by simp) (by omega))
      refine C.out.mono ?_
      rintro e5 w5 ⟨rfl, hb5⟩
      have hbr5 : Below wr.heap.size wr w5 := hba.trans (hb5.mono hba.size)
      have kX := Lib.hid ((Blk.new wr 37 #[.int .i64 yn, .int .u64 ys]).below hb5 (by simp))
      have HI5 := Lib.hid (Ren1.later (⟨hbr, ⟨Ab, cb, HGR.out, HROW.out, HDIS.out⟩, HLF.out⟩ : Ren1 G W1 first (st1 l bad gd j) (.slice Al (st1 l bad gd j).2.1.length cl) wr) (by omega) hbr5)
      clear bx0 bxl y0 y1 C hba hb5
      by_cases hbad : (⟨yn, ys⟩ : Pl) ∈ bad
      · rw [decide_eq_true hbad]
        have HBAD := Lib.hid hbad
        have hrow5 := HROW.out.below (by omega) hbr5
        have hG5 := HGR.out.below hbr5 hGl
        obtain ⟨g0, g1⟩ := blk_cell2 hG5
        obtain ⟨x0, x1⟩ := blk_cell2 kX.out
        have gl5 := hG5.lt
        have xl5 := kX.out.lt
        have hbr15 := hbr.trans (hbr5.mono (by omega))
        have hs5 := hbr5.size
        have C := Lib.hid (replaced_any first ⟨yn, ys⟩ (st1 l bad gd j).1 gd Ab Ak cb ck w5 (hrow5.pr (by omega)) ((HGD.out.below hbr15).more (by omega)) (by omega) (by omega))
        have HROW5 := Lib.hid hrow5
        have HG5 := Lib.hid hG5
        clear hbad hrow5 hG5
        go_wp2_with fail
        refine C.out.mono ?_
        intro e6 w6 hg
        clear C g0 g1 x0 x1 gl5 xl5
        cases hrep : repL (st1 l bad gd j).1 ⟨yn, ys⟩ gd with
        | none =>
          rw [hrep] at hg
          obtain ⟨rfl, hb6⟩ := hg
          have hG6 := HG5.out.below hb6 HG5.out.lt
          obtain ⟨g0, g1⟩ := blk_cell2 hG6
          have gl6 := hG6.lt
          have gf6 := hG6.frozen
          have kX6 := kX.out.below hb6 kX.out.lt
          obtain ⟨x0, x1⟩ := blk_cell2 kX6
          have xl6 := kX6.lt
          have HSN := Lib.hid ((HST.out).trans (ph1_none HBAD.out hrep))
          have hbr6 := hbr5.trans (hb6.mono (by omega))
          have hi6 := Ren1.later HI5.out (by omega) hb6
          have hi7 := hi6.put (st1 l bad gd j).1 Ab cb (st1 l bad gd j).2.2 (HROW5.out.below (by omega) hb6) HDIS.out
          have HI7 : Hid (Ren1 G W1 first (st1 l bad gd j) (.slice Al (st1 l bad gd j).2.1.length cl) ((w6.setCell ⟨G, 0, none⟩ (.int .u64 first)).setCell ⟨G, 1, none⟩ (.slice Ab (st1 l bad gd j).1.length cb))) := Lib.hid hi7
          have hs6 := hb6.size
          have hlpos : 0 < (st1 l bad gd j).1.length := by rw [(st1_len l bad gd j hj).1]; omega
          have HSS : Hid (((w6.setCell ⟨G, 0, none⟩ (.int .u64 first)).setCell ⟨G, 1, none⟩ (.slice Ab (st1 l bad gd j).1.length cb)).heap.size = w6.heap.size) := Lib.hid (by rw [size_setCell, size_setCell])
          clear hrep hG6 kX6 hi6 hi7
          go_wp2_with (at_builtin; go_loud (refine wpList_append_any _ rfl (.tmp 48) (.tmp 50) 23 rfl (G + 1) 37 i0 _ 2 16 Try.underlying23 hi hz0 hz1 hz2 rfl (by decide) _ _ _ rfl (HI7.out.left.alloc _) _ (some ⟨w6.heap.size, 0, none⟩) 1 1 (Pl.cs ⟨yn, ys⟩) rfl (Reads.of_blk (blk_newAt HSS.out 37 #[.int .i64 yn, .int .u64 ys]) rfl rfl) (pl_one1 yn ys) (by simp only [maxLen]; omega) (by omega) (by simp; omega) ?_))
          intro v' w8 hown8 hgr8 hat8
          have hi8 := Ren1.app (x := ⟨yn, ys⟩) HI7.out (by omega) hlpos _ hown8 hgr8 _ (by rw [World.size_alloc, HSS.out]) hat8
          have HI8 := Lib.hid hi8
          clear hi8 hown8 hgr8 hat8 hlpos
          cases sm
          all_goals
            go_wp2_with fail
            go_roundw
            case rel => exact ⟨j + 1, by omega, by go_num, ⟨_, rfl, by rw [HSN.out]; exact HSM.out⟩, by rw [HSN.out]; exact HI8.out⟩
            case measure => simp [intOf]; omega
        | some b' =>
          rw [hrep] at hg
          obtain ⟨A6, c6, rfl, hb6, hc61, hc62, ho6⟩ := hg
          have hG6 := HG5.out.below hb6 HG5.out.lt
          obtain ⟨g0, g1⟩ := blk_cell2 hG6
          have gl6 := hG6.lt
          have gf6 := hG6.frozen
          have HSN := Lib.hid ((HST.out).trans (ph1_some HBAD.out hrep))
          have hs6 := hb6.size
          have hdis6 : ∀ k ad, (Value.slice Al (st1 l bad gd j).2.1.length cl).ownBlock = some k → A6 = some ad → ad.block ≠ k := fun k ad hk ha => by
            have h1 := (HI5.out.left.lt k hk).2
            have h2 := ho6.lt ad.block (by rw [ha]; rfl)
            omega
          have hi7 := (Ren1.later HI5.out (by omega) hb6).put b' A6 c6 true (.inr (own_low ho6 (by omega))) hdis6
          have HI7 := Lib.hid hi7
          clear hrep hG6 ho6 hdis6 hi7
          go_wp2_with fail
          all_goals
            go_roundw
            case rel => exact ⟨j + 1, by omega, by go_num, ⟨_, rfl, by rw [HSN.out]⟩, by rw [HSN.out]; exact HI7.out⟩
            case measure => simp [intOf]; omega
      · rw [decide_eq_false hbad]
        have hsn : st1 l bad gd (j + 1) = st1 l bad gd j := by rw [HST.out, ph1_no hbad]
        have HSN := Lib.hid hsn
        clear hsn hbad
        go_wp2_with fail
        go_roundw
        case rel => exact ⟨j + 1, by omega, by go_num, ⟨_, rfl, by rw [HSN.out, HSM.out]⟩, by rw [HSN.out]; exact HI5.out⟩
        case measure => simp [intOf]; omega
    · have hjl : j = l.length := by omega
      subst hjl
      obtain ⟨s, hs⟩ : ∃ s, st1 l bad gd l.length = s := ⟨_, rfl⟩
      have hsl1 := st1_len l bad gd l.length (Nat.le_refl _)
      rw [hs] at HDIS HROW HLF HGR hln1 hln2 HREN HSM hsl1 ⊢
      have HSL := Lib.hid hsl1
      obtain ⟨g0, g1⟩ := blk_cell2 HGR.out
      have gf := HGR.out.frozen
      clear hs hsl1
      go_wp2_with fail
      refine (clone_any s.1 Ab cb _ wr (HROW.out.pr (by omega)) (Nat.le_refl _) (by omega)).mono ?_
      rintro e6 w6 ⟨Ac, cc, rfl, hb6, hcc1, hcc2, ho6⟩
      have hG6 := HGR.out.below hb6 hGl
      have hs6 := hb6.size
      obtain ⟨B2, hB2⟩ : ∃ B2, wr.heap.size = B2 := ⟨_, rfl⟩
      have hGB : G < B2 := by omega
      have h26 : Ren2 G B2 W1 first s.1 (w6.setCell ⟨G, 1, none⟩ (.slice Ac s.1.length cc)) := by
        have hq : w6.ownsRow B2 37 2 (.slice Ac s.1.length cc) s.1.length (s.1.flatMap Pl.cs) := by rw [← hB2]; exact ho6
        refine ⟨(hbr.trans (hb6.mono (by omega))).setCell (Nat.le_refl _) _, by rw [size_setCell]; omega, Ac, cc, ?_, ownsRow_setCell_below hq hGB _⟩
        have := hG6.set_ 1 (.slice Ac s.1.length cc)
        simpa using this
      have hL6 : Reads (w6.setCell ⟨G, 1, none⟩ (.slice Ac s.1.length cc)) B2 2 Al s.2.1.length (s.2.1.flatMap Pl.cs) := by
        rw [← hB2]
        exact reads_set_ne ((Reads.of_own HLF.out).below hb6) (fun ad ha => by have := own_ge HLF.out ad ha; show ad.block ≠ G; omega) _
      have hLne : ∀ ad, Al = some ad → ad.block ≠ G := fun ad ha => by have := own_ge HLF.out ad ha; omega
      have H26 := Lib.hid h26
      have HL6 := Lib.hid hL6
      have HLNE := Lib.hid hLne
      have g06 := (blk_cell2 hG6).1
      have g16 := (blk_cell2 hG6).2
      have gf6 := hG6.frozen
      have gl6 := hG6.lt
      clear g0 g1 gf ho6 hG6 h26 hL6 hLne HROW HGR HDIS HLF hB2
      go_wp2_with fail
      have hGW : G < W1.heap.size := by omega
      generalize w6.setCell ⟨G, 1, none⟩ (.slice Ac s.1.length cc) = w7 at H26 HL6
      clear g06 g16 gf6 gl6 hb6 hs6 hcc1 hcc2
      go_loopw [12, 19, 20, 63] (fun sv _ _ i wr => ∃ j : Nat, j ≤ s.2.1.length ∧ i = .int .i64 j ∧ (∃ sm, sv = .bool sm ∧ (st2 W s j).2 = sm) ∧ Ren2 G B2 W1 first (st2 W s j).1 wr ∧ Reads wr B2 2 Al s.2.1.length (s.2.1.flatMap Pl.cs)) (fun _ _ _ i _ => s.2.1.length - (intOf i).toNat)
      case atStart => exact ⟨0, Nat.zero_le _, rfl, ⟨sm, rfl, HSM.out⟩, H26.out, HL6.out⟩
      case round =>
        obtain ⟨j, hj, rfl, ⟨sm2, rfl, hsm2⟩, hinv, hLr⟩ := hrel
        have HSM2 := Lib.hid hsm2
        have HI := Lib.hid hinv
        have HLr := Lib.hid hLr
        have hsz := hinv.sz
        have hln3 := st2_len W s j
        clear hsm2 hLr H26 HL6
        obtain ⟨-, -, Ab2, cb2, hGr, hown⟩ := hinv
        have HGR := Lib.hid hGr
        have HOW := Lib.hid hown
        obtain ⟨g0, g1⟩ := blk_cell2 hGr
        have gl := hGr.lt
        clear hGr hown
        by_cases hlt : j < s.2.1.length
        · obtain ⟨b, o, yn, ys, rfl, hBb, hy, y0, y1⟩ := pl_elem HLr.out hlt
          have HST := Lib.hid (st2_succ (W := W) hy)
          clear hy
          go_wp2_with fail
          have hba : Below wr.heap.size wr (wr.alloc (.cells #[.int .i64 yn, .int .u64 ys] 37)) := (Below.refl _ _).alloc (Nat.le_refl _) _
          have C := Lib.hid (index_any (st2 W s j).1 Ab2 cb2 yn ys wr.heap.size (wr.alloc (.cells #[.int .i64 yn, .int .u64 ys] 37)) ((Reads.of_own HOW.out).below hba) (by simp) (by omega))
          refine C.out.mono ?_
          rintro e8 w8 ⟨rfl, hb8⟩
          have hbr8 : Below wr.heap.size wr w8 := hba.trans (hb8.mono hba.size)
          have HI8 := Lib.hid (HI.out.later hGB hbr8)
          have HL8 := Lib.hid (HLr.out.below (hbr8.mono hsz))
          have hG8 := HGR.out.below hbr8 gl
          have HO8 := Lib.hid (own_below HOW.out hbr8)
          have hs8 := hbr8.size
          have HG8 := Lib.hid hG8
          clear g0 g1 gl C hba hb8 y0 y1
          obtain ⟨g0, g1⟩ := blk_cell2 hG8
          have gl := hG8.lt
          have gf := hG8.frozen
          clear hG8
          by_cases hcond : W < (st2 W s j).1.length ∧ (⟨yn, ys⟩ : Pl) ∈ (st2 W s j).1
          · obtain ⟨hc1, hc2⟩ := hcond
            have hidx : idxP (st2 W s j).1 ⟨yn, ys⟩ = ((st2 W s j).1.idxOf ⟨yn, ys⟩ : Nat) := by unfold idxP; rw [if_pos hc2]
            have hkl : (st2 W s j).1.idxOf (⟨yn, ys⟩ : Pl) < (st2 W s j).1.length := List.idxOf_lt_length_of_mem hc2
            have hstn := (HST.out).trans (ph2_yes hc1 hc2)
            obtain ⟨k, hk⟩ : ∃ k, (st2 W s j).1.idxOf (⟨yn, ys⟩ : Pl) = k := ⟨_, rfl⟩
            rw [hk] at hidx hkl hstn
            rw [hidx]
            obtain ⟨g5, hAb, hg5⟩ := own_addr HO8.out (by omega)
            subst hAb
            have HSN := Lib.hid hstn
            have d1 : decide (W < ((st2 W s j).1.length : Int)) = true := decide_eq_true hc1
            have D := Lib.hid (del_any (st2 W s j).1 g5 cb2 k B2 w8 HO8.out hkl (by omega) (by omega))
            clear hidx hk hstn
            go_wp2_with fail
            refine D.out.mono ?_
            rintro e9 w9 ⟨rfl, hb9, ho9⟩
            have hG9 := HG8.out.below hb9 hGB
            have hlen9 : ((st2 W s j).1.take k ++ (st2 W s j).1.drop (k + 1)).length = (st2 W s j).1.length - 1 := by rw [List.length_append, List.length_take, List.length_drop]; omega
            have HI9 := Lib.hid (HI8.out.moved hGB hb9 _ hlen9 ho9)
            have HL9 := Lib.hid (reads_set_ne (p := ⟨G, 1, none⟩) (HL8.out.below hb9) HLNE.out (.slice (some ⟨g5, 0, none⟩) ((st2 W s j).1.length - 1) cb2))
            clear g0 g1 gl gf D hlen9 ho9
            obtain ⟨g0, g1⟩ := blk_cell2 hG9
            have gl := hG9.lt
            have gf := hG9.frozen
            clear hG9
            go_wp2_with fail
            go_roundw
            case rel => exact ⟨j + 1, by omega, by go_num, ⟨true, rfl, by rw [HSN.out]⟩, by rw [HSN.out]; exact HI9.out, HL9.out⟩
            case measure => simp [intOf]; omega
          · have hstn := (HST.out).trans (ph2_no hcond)
            have HSN := Lib.hid hstn
            by_cases hc1 : W < (st2 W s j).1.length
            · have hc2 : (⟨yn, ys⟩ : Pl) ∉ (st2 W s j).1 := fun h => hcond ⟨hc1, h⟩
              have hidx : idxP (st2 W s j).1 ⟨yn, ys⟩ = -1 := by unfold idxP; rw [if_neg hc2]
              rw [hidx]
              have d1 : decide (W < ((st2 W s j).1.length : Int)) = true := decide_eq_true hc1
              clear hidx hstn hcond
              go_wp2_with fail
              go_roundw
              case rel => exact ⟨j + 1, by omega, by go_num, ⟨sm2, rfl, by rw [HSN.out]; exact HSM2.out⟩, by rw [HSN.out]; exact HI8.out, HL8.out⟩
              case measure => simp [intOf]; omega
            · have d1 : decide (W < ((st2 W s j).1.length : Int)) = false := decide_eq_false hc1
              clear hstn hcond
              go_wp2_with fail
              go_roundw
              case rel => exact ⟨j + 1, by omega, by go_num, ⟨sm2, rfl, by rw [HSN.out]; exact HSM2.out⟩, by rw [HSN.out]; exact HI8.out, HL8.out⟩
              case measure => simp [intOf]; omega
        · have hjl2 : j = s.2.1.length := by omega
          subst hjl2
          obtain ⟨tt, htt⟩ : ∃ tt, st2 W s s.2.1.length = tt := ⟨_, rfl⟩
          rw [htt] at HREN HSM2 HI hln3 HGR HOW
          clear htt
          have gf := HGR.out.frozen
          have HBRW : Hid (Below G W1 wr) := Lib.hid HI.out.below
          have kR := HRX.out.below HBRW.out hHG
          obtain ⟨d0, d1⟩ := blk_cell2 kR
          have dl := kR.lt
          have df := kR.frozen
          have hln4 : tt.1.length ≤ 1000 := by omega
          clear kR HLr hln3 HSL
          cases sm2 with
          | false =>
            rw [HSM2.out] at HREN
            clear HSM2
            go_wp2_with fail
            rw [HREN.out]
            refine bodyPost_ret (v := .tuple #[.agg #[.int .u64 0, .slice none 0 0], .bool false]) (by simp [results, Try.results13, go_sem, d0, d1]) rfl ⟨rfl, ?_⟩
            exact below_set2 (hbW1.trans (HBRW.out.mono (by omega))) (by omega) _ _
          | true =>
            rw [HSM2.out] at HREN
            clear HSM2 g0 g1 gl gf d0 d1 dl df HGR HOW
            go_wp2_with fail
            have HREN' : Hid (renP l W e bad kn = some (st3 e tt.1 gd gd.length)) := Lib.hid HREN.out
            clear HREN
            go_loopw [22, 93] (fun _ i wr => ∃ j : Nat, j ≤ gd.length ∧ i = .int .i64 j ∧ Ren2 G B2 W1 first (st3 e tt.1 gd j) wr) (fun _ i _ => gd.length - (intOf i).toNat)
            case atStart => exact ⟨0, Nat.zero_le _, rfl, HI.out⟩
            case round =>
              obtain ⟨j, hj, rfl, hinv⟩ := hrel
              have HI3 := Lib.hid hinv
              have hsz := hinv.sz
              have hbr := hinv.below
              have hln5 : (st3 e tt.1 gd j).length ≤ 2000 := by have := st3_len e tt.1 gd j; omega
              clear HI HBRW
              obtain ⟨-, -, Ab3, cb3, hGr, hown⟩ := hinv
              have HGR := Lib.hid hGr
              have HOW := Lib.hid hown
              obtain ⟨g0, g1⟩ := blk_cell2 hGr
              have gl := hGr.lt
              have gf := hGr.frozen
              clear hGr hown
              by_cases hlt : j < gd.length
              · obtain ⟨b, o, yn, ys, rfl, hBb, hy, y0, y1⟩ := pl_elem (HGD.out.below hbr) hlt
                have HST := Lib.hid (st3_succ (e := e) (b := tt.1) hy)
                clear hy
                have hba : Below wr.heap.size wr (wr.alloc (.cells #[.int .i64 yn, .int .u64 ys] 37)) := (Below.refl _ _).alloc (Nat.le_refl _) _
                have kX := Blk.new wr 37 #[.int .i64 yn, .int .u64 ys]
                have C := Lib.hid (renhas_any (st3 e tt.1 gd j) Ab3 cb3 yn wr.heap.size wr.heap.size (wr.alloc (.cells #[.int .i64 yn, .int .u64 ys] 37)) ((Reads.of_own HOW.out).below hba) (by simp) (by omega) (by simp) (kX.cell 0))
                have HB3 := Lib.hid hba
                have HX3 := Lib.hid kX
                clear hba kX
                by_cases hc1 : ((st3 e tt.1 gd j).length : Int) < e ∧ (st3 e tt.1 gd j).length < 5
                · obtain ⟨hc1, hc2⟩ := hc1
                  by_cases hmem : yn ∈ (st3 e tt.1 gd j).map (·.n)
                  · have HSN := Lib.hid ((HST.out).trans (ph3_no fun h => h.2.2 hmem))
                    rw [decide_eq_true hmem] at C
                    clear hmem
                    go_wp2_with fail
                    all_goals
                      refine C.out.mono ?_
                      rintro e8 w8 ⟨rfl, hb8⟩
                      have hbr8 : Below wr.heap.size wr w8 := HB3.out.trans (hb8.mono HB3.out.size)
                      have HI8 := Lib.hid (HI3.out.later hGB hbr8)
                      clear C hb8
                      go_wp2_with fail
                      go_roundw
                      case rel => exact ⟨j + 1, by omega, by go_num, by rw [HSN.out]; exact HI8.out⟩
                      case measure => simp [intOf]; omega
                  · have HSN := Lib.hid ((HST.out).trans (ph3_yes ⟨hc1, hc2, hmem⟩))
                    rw [decide_eq_false hmem] at C
                    clear hmem
                    go_wp2_with fail
                    all_goals
                      refine C.out.mono ?_
                      rintro e8 w8 ⟨rfl, hb8⟩
                      have hbr8 : Below wr.heap.size wr w8 := HB3.out.trans (hb8.mono HB3.out.size)
                      have HI8 := Lib.hid (HI3.out.later hGB hbr8)
                      have hG8 := HGR.out.below hbr8 gl
                      have HO8 := Lib.hid (own_below HOW.out hbr8)
                      have hX8 := HX3.out.below hb8 (by simp)
                      have hs8 := hbr8.size
                      clear C hb8 g0 g1 gl gf
                      obtain ⟨g0, g1⟩ := blk_cell2 hG8
                      obtain ⟨x0, x1⟩ := blk_cell2 hX8
                      have gl := hG8.lt
                      have gf := hG8.frozen
                      have xl := hX8.lt
                      have HG8 := Lib.hid hG8
                      clear hG8 hX8 y0 y1
                      go_wp2_with (at_builtin; go_loud (refine wpList_append_any _ rfl (.tmp 111) (.tmp 113) 23 rfl B2 37 i0 _ 2 16 Try.underlying23 hi hz0 hz1 hz2 rfl (by decide) _ _ _ rfl (HO8.out.alloc _) _ (some ⟨w8.heap.size, 0, none⟩) 1 1 (Pl.cs ⟨yn, ys⟩) rfl (Reads.of_blk (Blk.new _ 37 #[.int .i64 yn, .int .u64 ys]) rfl rfl) (pl_one1 yn ys) (by simp only [maxLen]; omega) (by omega) (by simp; omega) ?_))
                      intro v' w9 hown9 hgr9 hat9
                      obtain ⟨A9, c9, rfl, hc91, hc92⟩ := own_form hown9
                      have hb9 : Below B2 w8 w9 := ((Below.refl B2 w8).alloc (by omega) _).grown hgr9 (by simp; omega) (fun k ek => (HO8.out.lt k ek).1)
                      have hG9 := HG8.out.below hb9 hGB
                      have HI9 := Lib.hid (HI8.out.moved hGB hb9 (st3 e tt.1 gd j ++ [⟨yn, ys⟩]) (by simp : (st3 e tt.1 gd j ++ [(⟨yn, ys⟩ : Pl)]).length = (st3 e tt.1 gd j).length + 1) (by rw [List.flatMap_append, List.flatMap_singleton]; exact hown9))
                      clear g0 g1 gl gf x0 x1 xl hgr9 hat9 hown9
                      have gl := hG9.lt
                      have gf := hG9.frozen
                      have g1 := (blk_cell2 hG9).2
                      clear hG9
                      go_wp2_with fail
                      go_roundw
                      case rel => exact ⟨j + 1, by omega, by go_num, by rw [HSN.out]; exact HI9.out⟩
                      case measure => simp [intOf]; omega
                · have HSN := Lib.hid ((HST.out).trans (ph3_no fun h => hc1 ⟨h.1, h.2.1⟩))
                  have HI8 := Lib.hid (HI3.out.later hGB HB3.out)
                  by_cases he5 : e ≤ 5
                  · have d5 : decide (((st3 e tt.1 gd j).length : Int) < e) = false := decide_eq_false (fun h => hc1 ⟨h, by omega⟩)
                    clear hc1 C
                    go_wp2_with fail
                    go_roundw
                    case rel => exact ⟨j + 1, by omega, by go_num, by rw [HSN.out]; exact HI8.out⟩
                    case measure => simp [intOf]; omega
                  · have d5 : decide (((st3 e tt.1 gd j).length : Int) < 5) = false := decide_eq_false (fun h => hc1 ⟨by omega, by omega⟩)
                    have d6 : ¬ ((st3 e tt.1 gd j).length < 5) := fun h => hc1 ⟨by omega, by omega⟩
                    clear hc1 C
                    go_wp2_with fail
                    go_roundw
                    case rel => exact ⟨j + 1, by omega, by go_num, by rw [HSN.out]; exact HI8.out⟩
                    case measure => simp [intOf]; omega
              · have hjl3 : j = gd.length := by omega
                subst hjl3
                have kR := HRX.out.below hbr hHG
                obtain ⟨d0, d1⟩ := blk_cell2 kR
                have dl := kR.lt
                have df := kR.frozen
                clear kR
                go_wp2_with fail
                rw [HREN'.out]
                refine bodyPost_ret (v := .tuple #[.agg #[.int .u64 first, .slice Ab3 (st3 e tt.1 gd gd.length).length cb3], .bool true]) (by simp [results, Try.results13, go_sem, d0, d1]) rfl ?_
                obtain ⟨A', c', he', hc1, hc2⟩ := own_form HOW.out
                cases he'
                refine ⟨Ab3, cb3, rfl, below_set2 (hbW1.trans (hbr.mono (by omega))) (by omega) _ _, hc1, hc2, own_low (ownsRow_setCell_below (ownsRow_setCell_below HOW.out (a := ⟨w.heap.size + 1 + 1, 0, none⟩) (by show w.heap.size + 1 + 1 < B2; omega) _) (a := ⟨w.heap.size + 1 + 1, 1, none⟩) (by show w.heap.size + 1 + 1 < B2; omega) _) (by omega)⟩
end Go.Proofs.Ytcmidhecmhbeoaa
