/- Chapter 05: an act, of the net and of the document's: the same answer. -/
import Derived.Test.YtfmflbcmigiciaaPriv
namespace Go.Proofs.Ytfmflbcmigiciaa
open Go.RowKit

theorem PP.back {w w' : World} {o : Obj} {R : Nat → Prop} {G : Nat} {A : Option Addr} {M : Nat} {N : Int} {cn cr : Nat → Nat → Bool} {bn br : List Msg} {K : Nat} (h : PP (w.alloc o) (fun k => R k ∨ k = w.heap.size) G A M N w' cn bn cr br K) (hoff : ∀ k, UM G A M k → ¬ R k) : PP w R G A M N w' cn bn cr br K := by
  obtain ⟨R', A', hu, ha, h1, h2, h3⟩ := h.ex
  refine ⟨R', A', ⟨(Far.of_below ((Below.refl w.heap.size w).alloc (Nat.le_refl _) o)).trans hu.far fun _ _ h => h, hoff, fun k hk => hu.up k (.inl hk), fun k hk => ?_, hu.lt⟩, fun k hk => ?_, h1, h2, h3⟩
  · rcases hu.old k hk with (h | h) | h
    · exact .inl h
    · exact .inr (by omega)
    · rw [World.size_alloc] at h; exact .inr (by omega)
  · rcases ha k hk with h | h
    · exact .inl h
    · rw [World.size_alloc] at h; exact .inr (by omega)
theorem PP.moreK {w0 w : World} {R0 : Nat → Prop} {G : Nat} {A0 : Option Addr} {M : Nat} {N : Int} {cn cr : Nat → Nat → Bool} {bn br : List Msg} {K K' : Nat} (h : PP w0 R0 G A0 M N w cn bn cr br K) (hk : K ≤ K') : PP w0 R0 G A0 M N w cn bn cr br K' := by
  obtain ⟨R, A, hu, ha, h1, h2, h3⟩ := h.ex
  exact ⟨R, A, hu, ha, h1, h2.moreK hk, h3⟩
theorem NetAt.mem_le {w : World} {R : Nat → Prop} {G : Nat} {A : Option Addr} {N : Int} {cut : Nat → Nat → Bool} {bag : List Msg} (h : NetAt w R G A N cut bag) {i : Int} {m : Msg} (hk : atP bag i = some m) : m.bs.length ≤ 1000000000 := by
  obtain ⟨k, _, _, hkm⟩ := atP_some hk
  obtain ⟨c, rs, _, _, h3⟩ := h.ex
  obtain ⟨_, _, _, _, hle⟩ := h3.get hkm
  exact hle
theorem NetAt.at_le {w : World} {R : Nat → Prop} {G : Nat} {A : Option Addr} {N : Int} {cut : Nat → Nat → Bool} {bag : List Msg} (h : NetAt w R G A N cut bag) (i : Int) : (atR bag i).1.bs.length ≤ 1000000000 := by
  unfold atR
  cases ha : atP bag i with
  | none => simp [m0]
  | some m => exact h.mem_le ha
theorem NetAt.del_le {w : World} {R : Nat → Prop} {G : Nat} {A : Option Addr} {N : Int} {cut : Nat → Nat → Bool} {bag : List Msg} (h : NetAt w R G A N cut bag) (i : Int) : (delP N cut bag i).1.bs.length ≤ 1000000000 := by
  unfold delP
  cases ha : atP bag i with
  | none => simp [m0]
  | some m =>
    simp only []
    split
    · exact h.mem_le ha
    · simp [m0]
theorem same_self (m : Msg) : sameB m m = true := decide_eq_true ⟨rfl, rfl, rfl⟩
theorem bb_of_own {w : World} {B : Nat} {m : Msg} {A : Option Addr} {c : Nat} (h : Own w B m A c) (h0 : 0 < m.bs.length) : ∃ g, A = some ⟨g, 0, none⟩ ∧ BB w g m.bs.length ∧ (Value.slice A m.bs.length c).ownBlock = some g ∧ B ≤ g ∧ g < w.heap.size := by
  obtain ⟨g, rfl, hg⟩ := own_addr h.row h0
  exact ⟨g, rfl, bb_own h.row, rfl, hg, (h.row.lt g rfl).2⟩
/-- The cells of the act's own block. -/
def BX (x : ActM) (b : Nat) (w : World) : Prop := w.cell? ⟨b, 1, none⟩ = some (.int .i64 x.a) ∧ w.cell? ⟨b, 2, none⟩ = some (.int .i64 x.b) ∧ w.cell? ⟨b, 3, none⟩ = some (.int .i64 x.i) ∧ w.cell? ⟨b, 4, none⟩ = some (.slice x.A x.bs.length x.c)
theorem bx_of {x : ActM} {b : Nat} {w : World} (h : Blk w b 41 #[.int .i64 x.d, .int .i64 x.a, .int .i64 x.b, .int .i64 x.i, .slice x.A x.bs.length x.c]) : BX x b w := ⟨h.cell 1, h.cell 2, h.cell 3, h.cell 4⟩

set_option maxRecDepth 100000 in
set_option maxHeartbeats 8000000 in
theorem act_any (x : ActM) {w : World} {R : Nat → Prop} {G : Nat} {A : Option Addr} {M : Nat} {N : Int} {cut : Nat → Nat → Bool} {bag : List Msg} {K : Nat} (h1 : NetAt w R G A N cut bag) (h2 : RefAt w R M N cut bag K) (h3 : ¬ wr G A M) (hK : K ≤ 100000) (hx : RD R w 1 x.A x.bs.length (x.bs.map (.int .u8))) (hle : x.bs.length ≤ 160000) :
    Calls Try.prog 22 #[.pointer (some ⟨G, 0, none⟩), .pointer (some ⟨M, 0, none⟩), .agg #[.int .i64 x.d, .int .i64 x.a, .int .i64 x.b, .int .i64 x.i, .slice x.A x.bs.length x.c]] w fun e w' => e = .returned (.bool true) ∧ PP w R G A M N w' (actP N cut bag x).1 (actP N cut bag x).2 (actP N cut bag x).1 (actP N cut bag x).2 (K + 1) := by
  obtain ⟨o, ho⟩ : ∃ o : Obj, o = .cells #[.int .i64 x.d, .int .i64 x.a, .int .i64 x.b, .int .i64 x.i, .slice x.A x.bs.length x.c] 41 := ⟨_, rfl⟩
  have hoff : ∀ k, UM G A M k → ¬ R k := fun k hk hR => hk.elim (fun h => h1.off k h hR) fun e => h2.off (e ▸ hR)
  have hb0 : Below w.heap.size w (w.alloc o) := (Below.refl _ _).alloc (Nat.le_refl _) _
  have k0 : Blk (w.alloc o) w.heap.size 41 #[.int .i64 x.d, .int .i64 x.a, .int .i64 x.b, .int .i64 x.i, .slice x.A x.bs.length x.c] := by rw [ho]; exact Blk.new _ _ _
  have n0 := (h1.below hb0).moreR (X := fun k => k = w.heap.size) fun k hk => ⟨by rw [hk]; simp, fun hw => by have := h1.wr_lt hw; omega⟩
  have r0 := (h2.below hb0).moreR (X := fun k => k = w.heap.size) fun k hk => ⟨by rw [hk]; simp, fun e => by have := h2.M_lt; omega⟩
  have P0 := Lib.hid (PP.start n0 r0 h3)
  have X0 := Lib.hid (PX.start n0 r0 h3)
  have hfin : ∀ (w' : World) (cn cr : Nat → Nat → Bool) (bn br : List Msg) (K' : Nat), PP (w.alloc o) (fun k => R k ∨ k = w.heap.size) G A M N w' cn bn cr br K' → PP w R G A M N w' cn bn cr br K' := fun _ _ _ _ _ _ hh => hh.back hoff
  have hbox : ∀ (w' : World) (cn cr : Nat → Nat → Bool) (bn br : List Msg) (K' : Nat), PP (w.alloc o) (fun k => R k ∨ k = w.heap.size) G A M N w' cn bn cr br K' → BX x w.heap.size w' := fun _ _ _ _ _ _ hh => bx_of (hh.blk k0 (.inr rfl))
  have hby : ∀ (w' : World) (cn cr : Nat → Nat → Bool) (bn br : List Msg) (K' : Nat), PP (w.alloc o) (fun k => R k ∨ k = w.heap.size) G A M N w' cn bn cr br K' → BR w' w'.heap.size x.A x.bs := fun _ _ _ _ _ _ hh => hh.rd ((hx.upd (Upd.of_below h1.lt hb0)).moreR fun _ => .inl)
  have hblk : ∀ (w' : World) (cn cr : Nat → Nat → Bool) (bn br : List Msg) (K' : Nat), PP (w.alloc o) (fun k => R k ∨ k = w.heap.size) G A M N w' cn bn cr br K' → Blk w' w.heap.size 41 #[.int .i64 x.d, .int .i64 x.a, .int .i64 x.b, .int .i64 x.i, .slice x.A x.bs.length x.c] := fun _ _ _ _ _ _ hh => hh.blk k0 (.inr rfl)
  have HBLK := Lib.hid hblk
  have hbs0 : (w.alloc o).heap.size = w.heap.size + 1 := by simp
  have HFIN := Lib.hid hfin
  have HBOX := Lib.hid hbox
  have HBY := Lib.hid hby
  have hGl := h1.G_lt
  have hMl := h2.M_lt
  unfold actP
  clear h1 h2 hoff hb0 n0 r0 hfin hbox hby hblk k0
  go_enter Try.func22, Try.ntmps22
  by_cases d0 : x.d = 0
  · have e0 : (x.d == 0) = true := by simpa using d0
    simp only [if_pos d0]
    clear d0
    obtain ⟨spe, hspe⟩ : ∃ q, sendP N cut bag x.a x.b x.bs = q := ⟨_, rfl⟩
    rw [hspe]
    obtain ⟨se, bag3⟩ := spe
    simp only []
    have HSP := Lib.hid hspe
    clear hspe
    obtain ⟨i5, hi5, hy0, hy1, hy2⟩ := info_parts info5
    have hby0 := HBY.out _ _ _ _ _ _ P0.out
    have HBY0 := Lib.hid hby0
    have hbl0 := HBLK.out _ _ _ _ _ _ P0.out
    have HBL0 := Lib.hid hbl0
    clear hby0 hbl0
    go_upto_region 3 with fail
    rw [← ho]
    clear ho
    have HBS0 := Lib.hid hbs0
    have z4 := HBL0.out.cell 4
    have zl := HBL0.out.lt
    clear hbs0
    generalize w.alloc o = W0 at *
    go_wp2_with (at_builtin; refine wpList_append_any _ rfl (.tmp 24) (.tmp 26) 24 rfl W0.heap.size 5 i5 _ 1 1 Try.underlying24 hi5 hy0 hy1 hy2 rfl (by decide) (.slice (some ⟨W0.heap.size, 0, none⟩) 0 0) 0 [] rfl (World.ownsRow_made W0 #[] 0 (Nat.le_refl _) (Nat.zero_le _) rfl) W0.heap.size x.A x.bs.length x.c (x.bs.map (.int .u8)) rfl (HBY0.out.alloc (Nat.le_refl _) _) (u8_one _) ?c1 ?c2 ?c3 ?_)
    case c1 => simp only [maxLen]; omega
    case c2 => omega
    case c3 => simp
    intro v1 w1 hown hg hat
    obtain ⟨hb1, hlt1, Ab, cb, rfl, hc1, hc2, _, ho1⟩ := lit_post hown hg
    obtain ⟨XS, hXS⟩ : ∃ XS : Nat → Prop, XS = fun k => False ∨ (Value.slice Ab x.bs.length cb).ownBlock = some k := ⟨_, rfl⟩
    have X1 : Hid (PX W0 (fun k => R k ∨ k = w.heap.size) G A M N XS w1 cut bag cut bag K) := Lib.hid (by rw [hXS]; exact X0.out.fresh hb1 (fun k hk => ho1.lt k hk))
    have HXS := Lib.hid (show ∀ k, (Value.slice Ab x.bs.length cb).ownBlock = some k → XS k from fun k hk => by rw [hXS]; exact .inr hk)
    have HO1 := Lib.hid ho1
    have B0 := HBOX.out _ _ _ _ _ _ X1.out.pp
    unfold BX at B0
    clear hown hg hat hb1 hlt1 ho1 hXS z4 zl HBY0 HBL0 hi5 hy0 hy1 hy2
    go_wp2_with fail
    go_region_held3 (fun w' => w'.cell? ⟨w.heap.size, 1, none⟩ = some (.int .i64 x.a) ∧ w'.cell? ⟨w.heap.size, 2, none⟩ = some (.int .i64 x.b) ∧ w'.cell? ⟨w.heap.size, 3, none⟩ = some (.int .i64 x.i) ∧ w'.cell? ⟨w.heap.size, 4, none⟩ = some (.slice x.A x.bs.length x.c)) (first | exact B0 | exact B1 | exact B2)
      (first
        | (go_at_call 10; refine ((X1.out.below ((Below.refl _ _).drew)).net (fun _ _ hn => by have q := c_send hn x.a x.b x.bs Ab cb (Reads.of_own HO1.out); rw [HSP.out] at q; exact q)).mono ?_; rintro e w2 ⟨rfl, hp2, S2, hF2, hS2⟩; have P1 := Lib.hid hp2; have HO2 := Lib.hid (own_far (own_below0 HO1.out ((Below.refl _ _).drew)) hF2 fun k hk => hS2 k (HXS.out k hk)); have B1 := HBOX.out _ _ _ _ _ _ hp2.pp; unfold BX at B1; clear hp2 hF2 hS2)
        | (go_at_call 36; refine ((X1.out.below ((Below.refl _ _).drew)).ref (p := fun e _ _ => e = .returned (.int .i64 se)) (fun _ hr => by have q := rsend_any hr (by omega) x.a x.b x.bs x.A x.c (HBY.out _ _ _ _ _ _ (X1.out.below ((Below.refl _ _).drew)).pp); rw [HSP.out] at q; exact q.mono fun e w' ⟨he, R', h1, h2⟩ => ⟨R', h1, h2, he⟩)).mono ?_; rintro e w2 ⟨⟨_, rfl, _⟩, hp2, S2, hF2, hS2⟩; have P1 := Lib.hid hp2; have HO2 := Lib.hid (own_far (own_below0 HO1.out ((Below.refl _ _).drew)) hF2 fun k hk => hS2 k (HXS.out k hk)); have B1 := HBOX.out _ _ _ _ _ _ hp2.pp; unfold BX at B1; clear hp2 hF2 hS2)
        | (go_at_call 10; refine (P1.out.net (fun _ _ hn => by have q := c_send hn x.a x.b x.bs Ab cb (Reads.of_own HO2.out); rw [HSP.out] at q; exact q)).mono ?_; rintro e w3 ⟨rfl, hp3, S3, hF3, hS3⟩; have P2 := Lib.hid hp3; have HO3 := Lib.hid (own_far HO2.out hF3 fun k hk => hS3 k (HXS.out k hk)); have B2 := HBOX.out _ _ _ _ _ _ hp3.pp; unfold BX at B2; clear hp3 hF3 hS3)
        | (go_at_call 36; refine (P1.out.ref (p := fun e _ _ => e = .returned (.int .i64 se)) (fun _ hr => by have q := rsend_any hr (by omega) x.a x.b x.bs x.A x.c (HBY.out _ _ _ _ _ _ P1.out.pp); rw [HSP.out] at q; exact q.mono fun e w' ⟨he, R', h1, h2⟩ => ⟨R', h1, h2, he⟩)).mono ?_; rintro e w3 ⟨⟨_, rfl, _⟩, hp3, S3, hF3, hS3⟩; have P2 := Lib.hid hp3; have HO3 := Lib.hid (own_far HO2.out hF3 fun k hk => hS3 k (HXS.out k hk)); have B2 := HBOX.out _ _ _ _ _ _ hp3.pp; unfold BX at B2; clear hp3 hF3 hS3))
    all_goals
      have HGU : Hid (∃ g, 0 < x.bs.length → Ab = some ⟨g, 0, none⟩ ∧ BB w3 g x.bs.length ∧ XS g) := Lib.hid (by
        by_cases h0 : 0 < x.bs.length
        · obtain ⟨g, q1, _⟩ := own_addr HO3.out h0
          have ho3 := HO3.out
          rw [q1] at ho3
          exact ⟨g, fun _ => ⟨q1, bb_own ho3, HXS.out g (by rw [q1]; rfl)⟩⟩
        · exact ⟨0, fun h => absurd h h0⟩)
      clear B0 B1 B2 HO1 HO2 HO3 X1 P1
      obtain ⟨g, hgg⟩ := HGU.out
      have HGG := Lib.hid hgg
      clear hgg HGU
      go_wp2_with fail
      go_loopw [9] (fun v wr => ∃ k : Nat, k ≤ x.bs.length ∧ v = .int .i64 k ∧ PX W0 (fun k => R k ∨ k = w.heap.size) G A M N XS wr cut bag3 cut bag3 K ∧ (0 < x.bs.length → Ab = some ⟨g, 0, none⟩ ∧ BB wr g x.bs.length ∧ XS g)) (fun v _ => x.bs.length - (intOf v).toNat)
      case atStart => exact ⟨0, Nat.zero_le _, rfl, P2.out, HGG.out⟩
      case round =>
        obtain ⟨k, hk, rfl, hx, hgb⟩ := hrel
        have HX := Lib.hid hx
        by_cases hlt : k < x.bs.length
        · obtain ⟨q1, q2, q3⟩ := hgb (by omega)
          subst q1
          obtain ⟨⟨bv, hbv⟩, hgl, hgf⟩ := q2.get hlt
          have HQ2 := Lib.hid q2
          have HQ3 := Lib.hid q3
          clear hx hgb q2 q3
          go_wp2_with fail
          go_roundw
          case rel =>
            exact ⟨k + 1, by omega, by go_num, HX.out.far ((Far.refl XS _).setCell (p := ⟨g, k, none⟩) (.inl HQ3.out) _), fun _ => ⟨by first | rfl | trivial, HQ2.out.set hlt _, HQ3.out⟩⟩
          case measure => simp [intOf]; omega
        · have HP := Lib.hid (HFIN.out _ _ _ _ _ _ HX.out.pp)
          clear hx hgb
          go_wp2_with fail
          go_ret
          exact ⟨ret_bool (by simp), HP.out.moreK (by omega)⟩
  · by_cases d1 : x.d = 1
    · have e0 : (x.d == 0) = false := by simpa using d0
      have e1 : (x.d == 1) = true := by simpa using d1
      simp only [if_neg d0, if_pos d1]
      clear d0 d1
      obtain ⟨mde, hmde⟩ : ∃ q, delP N cut bag x.i = q := ⟨_, rfl⟩
      rw [hmde]
      obtain ⟨md, de, bag3⟩ := mde
      simp only []
      have HMD := Lib.hid hmde
      clear hmde
      obtain ⟨mae, hmae⟩ : ∃ q, atR bag x.i = q := ⟨_, rfl⟩
      obtain ⟨ma, ae⟩ := mae
      have HMA := Lib.hid hmae
      clear hmae
      go_wp2_with fail
      rw [← ho]
      clear ho
      obtain ⟨R1, A1, -, -, hn1, -, -, -⟩ := X0.out.ex
      have C := c_at hn1 x.i
      have hmle := hn1.at_le x.i
      rw [HMA.out] at C hmle
      simp only [] at hmle
      have CC := Lib.hid C
      clear C hn1
      refine CC.out.mono ?_
      rintro e w1 ⟨Aa, ca, rfl, hb1, hoa⟩
      obtain ⟨W1, hW1⟩ : ∃ W1, W1 = w1.alloc (.cells #[.int .i64 ma.f, .int .i64 ma.t, .slice Aa ma.bs.length ca] 33) := ⟨_, rfl⟩
      have hb11 : Below w1.heap.size w1 W1 := by rw [hW1]; exact (Below.refl _ _).alloc (Nat.le_refl _) _
      have ka : Blk W1 w1.heap.size 33 #[.int .i64 ma.f, .int .i64 ma.t, .slice Aa ma.bs.length ca] := by rw [hW1]; exact Blk.new _ _ _
      have hs1 := hb1.size
      have X1 := Lib.hid (X0.out.fresh (hb1.trans (hb11.mono hb1.size)) (Y := fun k => k = w1.heap.size ∨ (Value.slice Aa ma.bs.length ca).ownBlock = some k) (fun k hk => by
        rcases hk with hk | hk
        · rw [hk]; exact ⟨hs1, ka.lt⟩
        · have := hoa.row.lt k hk; have := hb11.size; omega))
      have HOA := Lib.hid (hoa.below hb11)
      have HOW := Lib.hid (show ∀ k, (Value.slice Aa ma.bs.length ca).ownBlock = some k → k ≠ w1.heap.size from fun k hk => by have := (hoa.row.lt k hk).2; omega)
      have KA1 := Lib.hid ka
      have hbx := HBLK.out _ _ _ _ _ _ (X0.out.below hb1).pp
      have c3 := hbx.cell 3
      have cl := hbx.lt
      unfold msgV
      clear hb1 hb11 hoa ka hbx CC
      go_wp2_with fail
      rw [← hW1]
      clear hW1 c3 cl
      obtain ⟨R2, A2, -, -, -, hr2, -, -⟩ := X1.out.ex
      have D := rat_any hr2 x.i
      rw [HMA.out] at D
      have DD := Lib.hid D
      clear D hr2
      refine DD.out.mono ?_
      rintro e w2 ⟨Ab, cb, rfl, hb2, hrdb⟩
      obtain ⟨W2, hW2⟩ : ∃ W2, W2 = w2.alloc (.cells #[.int .i64 ma.f, .int .i64 ma.t, .slice Ab ma.bs.length cb] 33) := ⟨_, rfl⟩
      have hb22 : Below w2.heap.size w2 W2 := by rw [hW2]; exact (Below.refl _ _).alloc (Nat.le_refl _) _
      have kb : Blk W2 w2.heap.size 33 #[.int .i64 ma.f, .int .i64 ma.t, .slice Ab ma.bs.length cb] := by rw [hW2]; exact Blk.new _ _ _
      have hb12 := hb2.trans (hb22.mono hb2.size)
      have hs2 := hb2.size
      have hl1 := KA1.out.lt
      have X2 := Lib.hid (X1.out.fresh hb12 (Y := fun k => k = w2.heap.size) (fun k hk => by rw [hk]; exact ⟨hs2, kb.lt⟩))
      have HOA2 := Lib.hid (HOA.out.below hb12)
      have HRB2 := Lib.hid ((hrdb.1.below hb12).more hb12.size)
      have KA2 := Lib.hid (KA1.out.below hb12 hl1)
      have KB2 := Lib.hid kb
      have kaw := KA1.out.below hb2 hl1
      have hbx := HBLK.out _ _ _ _ _ _ (X1.out.below hb2).pp
      have c0 := hbx.cell 0
      have c3 := hbx.cell 3
      have cl := hbx.lt
      obtain ⟨a0, a1, a2⟩ := blk_cell3 kaw
      have al := kaw.lt
      unfold msgV
      clear hb2 hb22 hrdb kb hb12 hbx kaw DD
      go_wp2_with fail
      rw [← hW2]
      clear hW2 c0 c3 cl a0 a1 a2 al
      obtain ⟨R3, A3, -, -, hn3, -, -, -⟩ := X2.out.ex
      have hmdle := hn3.del_le x.i
      rw [HMD.out] at hmdle
      simp only [] at hmdle
      have C := X2.out.net0 (fun _ _ hn => c_deliver0 hn x.i)
      rw [HMD.out] at C
      simp only [] at C
      clear hn3 hmle
      refine C.mono ?_
      rintro e w3 ⟨⟨Ad, cd, rfl, hod⟩, -, ⟨S3, hF3, hS3⟩, hpx⟩
      have X3 := Lib.hid (hpx md Ad cd hod)
      have KA3 := Lib.hid (KA2.out.far_ hF3 (hS3 _ (.inl (.inr (.inl rfl)))))
      have KB3 := Lib.hid (KB2.out.far_ hF3 (hS3 _ (.inr rfl)))
      have hl2 := KB2.out.lt
      have hne12 : w1.heap.size ≠ w2.heap.size := by omega
      have hodb := Lib.hid (show ∀ k, (Value.slice Ad md.bs.length cd).ownBlock = some k → k ≠ w1.heap.size ∧ k ≠ w2.heap.size from fun k hk => by have := (hod.row.lt k hk).1; omega)
      have HOD3 := Lib.hid hod
      obtain ⟨a0, a1, a2⟩ := blk_cell3 KA3.out
      have hfa := KA3.out.frozen
      have hla := KA3.out.lt
      have hbx := HBLK.out _ _ _ _ _ _ X3.out.pp
      have c3 := hbx.cell 3
      have cl := hbx.lt
      have hnb : w.heap.size ≠ w1.heap.size := by omega
      unfold msgV
      clear C hod hF3 hS3 hpx hbx X2 KA2 KB2 HOA2 HRB2 X1 KA1 HOA HOW
      go_wp2_with fail
      have F4 : Far (fun k => k = w1.heap.size) w3 (((w3.setCell ⟨w1.heap.size, 0, none⟩ (.int .i64 md.f)).setCell ⟨w1.heap.size, 1, none⟩ (.int .i64 md.t)).setCell ⟨w1.heap.size, 2, none⟩ (.slice Ad md.bs.length cd)) := (((Far.refl (fun k => k = w1.heap.size) w3).setCell (p := ⟨w1.heap.size, 0, none⟩) (.inl rfl) _).setCell (p := ⟨w1.heap.size, 1, none⟩) (.inl rfl) _).setCell (p := ⟨w1.heap.size, 2, none⟩) (.inl rfl) _
      have ka4 := blk_set3 KA3.out (.int .i64 md.f) (.int .i64 md.t) (.slice Ad md.bs.length cd)
      obtain ⟨W4, hW4⟩ : ∃ W4, W4 = (((w3.setCell ⟨w1.heap.size, 0, none⟩ (.int .i64 md.f)).setCell ⟨w1.heap.size, 1, none⟩ (.int .i64 md.t)).setCell ⟨w1.heap.size, 2, none⟩ (.slice Ad md.bs.length cd)) := ⟨_, rfl⟩
      rw [← hW4] at F4 ka4 ⊢
      clear hW4
      have X4 := Lib.hid (X3.out.far (F4.mono fun k hk => .inl (.inl (.inr (.inl hk)))))
      have KA4 := Lib.hid ka4
      have KB4 := Lib.hid (KB3.out.far_ F4 (Ne.symm hne12))
      have HOD4 := Lib.hid (HOD3.out.farS F4 fun k hk => (hodb.out k hk).1)
      clear F4 ka4 X3 KA3 KB3 HOD3 c3 cl hfa hla a0 a1 a2
      have D := X4.out.ref (p := fun e w' R' => ∃ A' c', e = .returned (.tuple #[msgV (delP N cut bag x.i).1 A' c', .int .i64 (delP N cut bag x.i).2.1]) ∧ RD R' w' 1 A' (delP N cut bag x.i).1.bs.length ((delP N cut bag x.i).1.bs.map (.int .u8))) (fun _ hr => (rdeliver_any hr (by omega) x.i).mono fun e w' ⟨A', c', he, R', h1, h2, h3⟩ => ⟨R', h1, h2, A', c', he, h3⟩)
      rw [HMD.out] at D
      simp only [] at D
      refine D.mono ?_
      rintro e w5 ⟨⟨R5, ⟨Ab2, cb2, rfl, hrd5⟩, hR5⟩, hpx5, S5, hF5, hS5⟩
      have X5 := Lib.hid hpx5
      have KA5 := Lib.hid (KA4.out.far_ hF5 (hS5 _ (.inl (.inl (.inr (.inl rfl))))))
      have KB5 := Lib.hid (KB4.out.far_ hF5 (hS5 _ (.inl (.inr rfl))))
      have HOD5 := Lib.hid (HOD4.out.farS hF5 fun k hk => hS5 k (.inr hk))
      have HRD5 := Lib.hid hrd5
      have HR5 := Lib.hid hR5
      obtain ⟨a0, a1, a2⟩ := blk_cell3 KA5.out
      have al := KA5.out.lt
      obtain ⟨p0, p1, p2⟩ := blk_cell3 KB5.out
      have hfb := KB5.out.frozen
      have hlb := KB5.out.lt
      unfold msgV
      clear D hpx5 hF5 hS5 hrd5 hR5 X4 KA4 KB4 HOD4
      go_wp2_with fail
      have F6 : Far (fun k => k = w2.heap.size) w5 (((w5.setCell ⟨w2.heap.size, 0, none⟩ (.int .i64 md.f)).setCell ⟨w2.heap.size, 1, none⟩ (.int .i64 md.t)).setCell ⟨w2.heap.size, 2, none⟩ (.slice Ab2 md.bs.length cb2)) := (((Far.refl (fun k => k = w2.heap.size) w5).setCell (p := ⟨w2.heap.size, 0, none⟩) (.inl rfl) _).setCell (p := ⟨w2.heap.size, 1, none⟩) (.inl rfl) _).setCell (p := ⟨w2.heap.size, 2, none⟩) (.inl rfl) _
      obtain ⟨wt, hwt⟩ : ∃ wt, wt = (((w5.setCell ⟨w2.heap.size, 0, none⟩ (.int .i64 md.f)).setCell ⟨w2.heap.size, 1, none⟩ (.int .i64 md.t)).setCell ⟨w2.heap.size, 2, none⟩ (.slice Ab2 md.bs.length cb2)) := ⟨_, rfl⟩
      rw [← hwt] at F6 ⊢
      clear hwt a0 a1 a2 al hfb hlb p0 p1 p2
      obtain ⟨XS, hXS⟩ : ∃ XS : Nat → Prop, XS = fun k => ((False ∨ (k = w1.heap.size ∨ (Value.slice Aa ma.bs.length ca).ownBlock = some k)) ∨ k = w2.heap.size) ∨ (Value.slice Ad md.bs.length cd).ownBlock = some k := ⟨_, rfl⟩
      have XT : Hid (PX (w.alloc o) (fun k => R k ∨ k = w.heap.size) G A M N XS wt cut bag3 cut bag3 K) := Lib.hid (by rw [hXS]; exact X5.out.far (F6.mono fun k hk => .inl (.inr hk)))
      have HOT := Lib.hid (HOD5.out.farS F6 fun k hk => (hodb.out k hk).2)
      have KT := Lib.hid (KA5.out.far_ F6 hne12)
      have HRB := Lib.hid ((reads_far HRD5.out.1 (Nat.le_refl _) F6 fun hp ad e hk => HR5.out _ (.inl (.inr hk)) (HRD5.out.2 hp ad e)).more F6.size)
      have HXO : Hid (∀ g, (Value.slice Ad md.bs.length cd).ownBlock = some g → XS g ∧ g ≠ w1.heap.size) := Lib.hid fun g hg => ⟨by rw [hXS]; exact .inr hg, (hodb.out g hg).1⟩
      clear hXS F6 X5 KA5 KB5 HOD5 HRD5 HR5 hodb HMA HMD hne12 hnb
      have hmle := hmdle
      generalize w1.heap.size = b10 at *
      have CS := same_any md md Ad Ab2 cd cb2 wt.heap.size wt (Reads.of_own HOT.out.row) HRB.out (Nat.le_refl _)
      rw [same_self] at CS
      unfold msgV at CS
      refine CS.mono ?_
      rintro e wu ⟨rfl, hbu⟩
      have XU := Lib.hid (XT.out.below hbu)
      have KU := Lib.hid (KT.out.below hbu KT.out.lt)
      have HOU := HOT.out.below hbu
      have HGU : Hid (∃ g, 0 < md.bs.length → Ad = some ⟨g, 0, none⟩ ∧ BB wu g md.bs.length ∧ XS g ∧ g ≠ b10) := Lib.hid (by
        by_cases h0 : 0 < md.bs.length
        · obtain ⟨g, q1, q2, q3, _⟩ := bb_of_own HOU h0
          exact ⟨g, fun _ => ⟨q1, q2, HXO.out g q3⟩⟩
        · exact ⟨0, fun h => absurd h h0⟩)
      clear hbu CS HOU HOT XT KT HRB
      obtain ⟨g, hgg⟩ := HGU.out
      have HGG := Lib.hid hgg
      clear hgg HGU
      go_wp2_with fail
      go_loopw [15] (fun v wr => ∃ k : Nat, k ≤ md.bs.length ∧ v = .int .i64 k ∧ PX (w.alloc o) (fun k => R k ∨ k = w.heap.size) G A M N XS wr cut bag3 cut bag3 K ∧ Blk wr b10 33 #[.int .i64 md.f, .int .i64 md.t, .slice Ad md.bs.length cd] ∧ (0 < md.bs.length → Ad = some ⟨g, 0, none⟩ ∧ BB wr g md.bs.length ∧ XS g ∧ g ≠ b10)) (fun v _ => md.bs.length - (intOf v).toNat)
      case atStart => exact ⟨0, Nat.zero_le _, rfl, XU.out, KU.out, HGG.out⟩
      case round =>
        obtain ⟨k, hk, rfl, hx, hkb, hgb⟩ := hrel
        have c2 := hkb.cell 2
        have cl := hkb.lt
        have HX := Lib.hid hx
        have HK := Lib.hid hkb
        by_cases hlt : k < md.bs.length
        · obtain ⟨q1, q2, q3, q4⟩ := hgb (by omega)
          subst q1
          obtain ⟨⟨bv, hbv⟩, hgl, hgf⟩ := q2.get hlt
          have HQ2 := Lib.hid q2
          have HQ3 := Lib.hid q3
          clear hx hkb hgb q2 q3
          go_wp2_with fail
          go_roundw
          case rel =>
            exact ⟨k + 1, by omega, by go_num, HX.out.far ((Far.refl XS _).setCell (p := ⟨g, k, none⟩) (.inl HQ3.out) _), HK.out.far (p := ⟨g, k, none⟩) (Ne.symm q4) _, fun _ => ⟨by first | rfl | trivial, HQ2.out.set hlt _, HQ3.out, q4⟩⟩
          case measure => simp [intOf]; omega
        · have HP := Lib.hid (HFIN.out _ _ _ _ _ _ HX.out.pp)
          clear hx hkb hgb
          go_wp2_with fail
          go_ret
          exact ⟨rfl, HP.out.moreK (by omega)⟩
    · by_cases d8 : x.d = 8
      · have e0 : (x.d == 0) = false := by simpa using d0
        have e1 : (x.d == 1) = false := by simpa using d1
        have e8 : (x.d == 8) = true := by simpa using d8
        simp only [if_neg d0, if_neg d1, if_neg (show ¬ x.d = 2 by omega), if_neg (show ¬ x.d = 3 by omega), if_neg (show ¬ x.d = 4 by omega), if_neg (show ¬ x.d = 5 by omega)]
        clear d0 d1 d8
        obtain ⟨mae, hmae⟩ : ∃ q, atR bag x.i = q := ⟨_, rfl⟩
        obtain ⟨ma, ae⟩ := mae
        have HMA := Lib.hid hmae
        clear hmae
        go_wp2_with fail
        rw [← ho]
        clear ho
        obtain ⟨R1, A1, -, -, hn1, -, -, -⟩ := X0.out.ex
        have C := c_at hn1 x.i
        have hmle := hn1.at_le x.i
        rw [HMA.out] at C hmle
        simp only [] at hmle
        have CC := Lib.hid C
        clear C hn1
        refine CC.out.mono ?_
        rintro e w1 ⟨Aa, ca, rfl, hb1, hoa⟩
        obtain ⟨W1, hW1⟩ : ∃ W1, W1 = w1.alloc (.cells #[.int .i64 ma.f, .int .i64 ma.t, .slice Aa ma.bs.length ca] 33) := ⟨_, rfl⟩
        have hb11 : Below w1.heap.size w1 W1 := by rw [hW1]; exact (Below.refl _ _).alloc (Nat.le_refl _) _
        have ka : Blk W1 w1.heap.size 33 #[.int .i64 ma.f, .int .i64 ma.t, .slice Aa ma.bs.length ca] := by rw [hW1]; exact Blk.new _ _ _
        have hs1 := hb1.size
        have X1 := Lib.hid (X0.out.fresh (hb1.trans (hb11.mono hb1.size)) (Y := fun k => k = w1.heap.size ∨ (Value.slice Aa ma.bs.length ca).ownBlock = some k) (fun k hk => by
          rcases hk with hk | hk
          · rw [hk]; exact ⟨hs1, ka.lt⟩
          · have := hoa.row.lt k hk; have := hb11.size; omega))
        have HOA := Lib.hid (hoa.below hb11)
        have HOW := Lib.hid (show ∀ k, (Value.slice Aa ma.bs.length ca).ownBlock = some k → k ≠ w1.heap.size from fun k hk => by have := (hoa.row.lt k hk).2; omega)
        have KA1 := Lib.hid ka
        have hbx := HBLK.out _ _ _ _ _ _ (X0.out.below hb1).pp
        have c3 := hbx.cell 3
        have cl := hbx.lt
        unfold msgV
        clear hb1 hb11 hoa ka hbx CC
        go_wp2_with fail
        rw [← hW1]
        clear hW1 c3 cl
        obtain ⟨R2, A2, -, -, -, hr2, -, -⟩ := X1.out.ex
        have D := rat_any hr2 x.i
        rw [HMA.out] at D
        have DD := Lib.hid D
        clear D hr2
        refine DD.out.mono ?_
        rintro e w2 ⟨Ab, cb, rfl, hb2, hrdb⟩
        obtain ⟨W2, hW2⟩ : ∃ W2, W2 = w2.alloc (.cells #[.int .i64 ma.f, .int .i64 ma.t, .slice Ab ma.bs.length cb] 33) := ⟨_, rfl⟩
        have hb22 : Below w2.heap.size w2 W2 := by rw [hW2]; exact (Below.refl _ _).alloc (Nat.le_refl _) _
        have kb : Blk W2 w2.heap.size 33 #[.int .i64 ma.f, .int .i64 ma.t, .slice Ab ma.bs.length cb] := by rw [hW2]; exact Blk.new _ _ _
        have hb12 := hb2.trans (hb22.mono hb2.size)
        have hs2 := hb2.size
        have hl1 := KA1.out.lt
        have X2 := Lib.hid (X1.out.fresh hb12 (Y := fun k => k = w2.heap.size) (fun k hk => by rw [hk]; exact ⟨hs2, kb.lt⟩))
        have HOA2 := Lib.hid (HOA.out.below hb12)
        have HRB2 := Lib.hid ((hrdb.1.below hb12).more hb12.size)
        have KA2 := Lib.hid (KA1.out.below hb12 hl1)
        have KB2 := Lib.hid kb
        have kaw := KA1.out.below hb2 hl1
        have hbx := HBLK.out _ _ _ _ _ _ (X1.out.below hb2).pp
        have c0 := hbx.cell 0
        have c3 := hbx.cell 3
        have cl := hbx.lt
        obtain ⟨a0, a1, a2⟩ := blk_cell3 kaw
        have al := kaw.lt
        unfold msgV
        clear hb2 hb22 hrdb kb hb12 hbx kaw DD
        go_wp2_with fail
        rw [← hW2]
        clear hW2 c0 c3 cl a0 a1 a2 al
        obtain ⟨XS, hXS⟩ : ∃ XS : Nat → Prop, XS = fun k => (False ∨ (k = w1.heap.size ∨ (Value.slice Aa ma.bs.length ca).ownBlock = some k)) ∨ k = w2.heap.size := ⟨_, rfl⟩
        have XT : Hid (PX (w.alloc o) (fun k => R k ∨ k = w.heap.size) G A M N XS W2 cut bag cut bag K) := Lib.hid (by rw [hXS]; exact X2.out)
        generalize hb10 : w1.heap.size = b10 at *
        generalize hwt : W2 = wt at *
        have HOT := HOA2
        have HRB := HRB2
        have KT := KA2
        have HXO : Hid (∀ g, (Value.slice Aa ma.bs.length ca).ownBlock = some g → XS g ∧ g ≠ b10) := Lib.hid fun g hg => ⟨by rw [hXS]; exact .inl (.inr (.inr hg)), HOW.out g hg⟩
        clear hXS hwt hb10 X2 KA2 KB2 HRB2 HOA2 X1 KA1 HOA HOW
        have CS := same_any ma ma Aa Ab ca cb wt.heap.size wt (Reads.of_own HOT.out.row) HRB.out (Nat.le_refl _)
        rw [same_self] at CS
        unfold msgV at CS
        refine CS.mono ?_
        rintro e wu ⟨rfl, hbu⟩
        have XU := Lib.hid (XT.out.below hbu)
        have KU := Lib.hid (KT.out.below hbu KT.out.lt)
        have HOU := HOT.out.below hbu
        have HGU : Hid (∃ g, 0 < ma.bs.length → Aa = some ⟨g, 0, none⟩ ∧ BB wu g ma.bs.length ∧ XS g ∧ g ≠ b10) := Lib.hid (by
          by_cases h0 : 0 < ma.bs.length
          · obtain ⟨g, q1, q2, q3, _⟩ := bb_of_own HOU h0
            exact ⟨g, fun _ => ⟨q1, q2, HXO.out g q3⟩⟩
          · exact ⟨0, fun h => absurd h h0⟩)
        clear hbu CS HOU HOT XT KT HRB
        obtain ⟨g, hgg⟩ := HGU.out
        have HGG := Lib.hid hgg
        clear hgg HGU
        go_wp2_with fail
        go_loopw [15] (fun v wr => ∃ k : Nat, k ≤ ma.bs.length ∧ v = .int .i64 k ∧ PX (w.alloc o) (fun k => R k ∨ k = w.heap.size) G A M N XS wr cut bag cut bag K ∧ Blk wr b10 33 #[.int .i64 ma.f, .int .i64 ma.t, .slice Aa ma.bs.length ca] ∧ (0 < ma.bs.length → Aa = some ⟨g, 0, none⟩ ∧ BB wr g ma.bs.length ∧ XS g ∧ g ≠ b10)) (fun v _ => ma.bs.length - (intOf v).toNat)
        case atStart => exact ⟨0, Nat.zero_le _, rfl, XU.out, KU.out, HGG.out⟩
        case round =>
          obtain ⟨k, hk, rfl, hx, hkb, hgb⟩ := hrel
          have c2 := hkb.cell 2
          have cl := hkb.lt
          have HX := Lib.hid hx
          have HK := Lib.hid hkb
          by_cases hlt : k < ma.bs.length
          · obtain ⟨q1, q2, q3, q4⟩ := hgb (by omega)
            subst q1
            obtain ⟨⟨bv, hbv⟩, hgl, hgf⟩ := q2.get hlt
            have HQ2 := Lib.hid q2
            have HQ3 := Lib.hid q3
            clear hx hkb hgb q2 q3
            go_wp2_with fail
            go_roundw
            case rel =>
              exact ⟨k + 1, by omega, by go_num, HX.out.far ((Far.refl XS _).setCell (p := ⟨g, k, none⟩) (.inl HQ3.out) _), HK.out.far (p := ⟨g, k, none⟩) (Ne.symm q4) _, fun _ => ⟨by first | rfl | trivial, HQ2.out.set hlt _, HQ3.out, q4⟩⟩
            case measure => simp [intOf]; omega
          · have HP := Lib.hid (HFIN.out _ _ _ _ _ _ HX.out.pp)
            clear hx hkb hgb
            go_wp2_with fail
            go_ret
            exact ⟨rfl, HP.out.moreK (by omega)⟩
      · by_cases d2 : x.d = 2
        · have e0 : (x.d == 0) = false := by simpa using d0
          have e1 : (x.d == 1) = false := by simpa using d1
          have e8 : (x.d == 8) = false := by simpa using d8
          have e2 : (x.d == 2) = true := by simpa using d2
          simp only [if_neg d0]
          simp only [if_neg d1]
          simp only [if_pos d2]
          clear d0 d1 d8 d2
          go_wp2_with fail
          rw [← ho]
          clear ho
          have B0 := HBOX.out _ _ _ _ _ _ P0.out
          unfold BX at B0
          go_region_held3 (fun w' => w'.cell? ⟨w.heap.size, 1, none⟩ = some (.int .i64 x.a) ∧ w'.cell? ⟨w.heap.size, 2, none⟩ = some (.int .i64 x.b) ∧ w'.cell? ⟨w.heap.size, 3, none⟩ = some (.int .i64 x.i) ∧ w'.cell? ⟨w.heap.size, 4, none⟩ = some (.slice x.A x.bs.length x.c)) (first | exact B0 | exact B1 | exact B2)
            (first
              | (go_at_call 15; refine ((P0.out.below ((Below.refl _ _).drew)).net fun _ _ hn => c_drop hn x.i).mono ?_; rintro e w1 ⟨rfl, hp1⟩; have P1 := Lib.hid hp1; have B1 := HBOX.out _ _ _ _ _ _ hp1; unfold BX at B1; clear hp1)
              | (go_at_call 39; refine ((P0.out.below ((Below.refl _ _).drew)).ref fun _ hn => rdrop_any hn x.i).mono ?_; rintro e w1 ⟨rfl, hp1⟩; have P1 := Lib.hid hp1; have B1 := HBOX.out _ _ _ _ _ _ hp1; unfold BX at B1; clear hp1)
              | (go_at_call 15; refine (P1.out.net fun _ _ hn => c_drop hn x.i).mono ?_; rintro e w2 ⟨rfl, hp2⟩; have P2 := Lib.hid hp2; have B2 := HBOX.out _ _ _ _ _ _ hp2; unfold BX at B2; clear hp2)
              | (go_at_call 39; refine (P1.out.ref fun _ hn => rdrop_any hn x.i).mono ?_; rintro e w2 ⟨rfl, hp2⟩; have P2 := Lib.hid hp2; have B2 := HBOX.out _ _ _ _ _ _ hp2; unfold BX at B2; clear hp2))
          all_goals
            have HP := Lib.hid (HFIN.out _ _ _ _ _ _ P2.out)
            clear B0 B1 B2
            go_wp2_with fail
            go_ret
            exact ⟨ret_bool (by simp), HP.out.moreK (by omega)⟩
        · by_cases d3 : x.d = 3
          · have e0 : (x.d == 0) = false := by simpa using d0
            have e1 : (x.d == 1) = false := by simpa using d1
            have e8 : (x.d == 8) = false := by simpa using d8
            have e2 : (x.d == 2) = false := by simpa using d2
            have e3 : (x.d == 3) = true := by simpa using d3
            simp only [if_neg d0]
            simp only [if_neg d1]
            simp only [if_neg d2]
            simp only [if_pos d3]
            clear d0 d1 d8 d2 d3
            go_wp2_with fail
            rw [← ho]
            clear ho
            have B0 := HBOX.out _ _ _ _ _ _ P0.out
            unfold BX at B0
            go_region_held3 (fun w' => w'.cell? ⟨w.heap.size, 1, none⟩ = some (.int .i64 x.a) ∧ w'.cell? ⟨w.heap.size, 2, none⟩ = some (.int .i64 x.b) ∧ w'.cell? ⟨w.heap.size, 3, none⟩ = some (.int .i64 x.i) ∧ w'.cell? ⟨w.heap.size, 4, none⟩ = some (.slice x.A x.bs.length x.c)) (first | exact B0 | exact B1 | exact B2)
              (first
                | (go_at_call 17; refine ((P0.out.below ((Below.refl _ _).drew)).net fun _ _ hn => c_double hn x.i).mono ?_; rintro e w1 ⟨rfl, hp1⟩; have P1 := Lib.hid hp1; have B1 := HBOX.out _ _ _ _ _ _ hp1; unfold BX at B1; clear hp1)
                | (go_at_call 40; refine ((P0.out.below ((Below.refl _ _).drew)).ref fun _ hn => rdouble_any hn x.i).mono ?_; rintro e w1 ⟨rfl, hp1⟩; have P1 := Lib.hid hp1; have B1 := HBOX.out _ _ _ _ _ _ hp1; unfold BX at B1; clear hp1)
                | (go_at_call 17; refine (P1.out.net fun _ _ hn => c_double hn x.i).mono ?_; rintro e w2 ⟨rfl, hp2⟩; have P2 := Lib.hid hp2; have B2 := HBOX.out _ _ _ _ _ _ hp2; unfold BX at B2; clear hp2)
                | (go_at_call 40; refine (P1.out.ref fun _ hn => rdouble_any hn x.i).mono ?_; rintro e w2 ⟨rfl, hp2⟩; have P2 := Lib.hid hp2; have B2 := HBOX.out _ _ _ _ _ _ hp2; unfold BX at B2; clear hp2))
            all_goals
              have HP := Lib.hid (HFIN.out _ _ _ _ _ _ P2.out)
              clear B0 B1 B2
              go_wp2_with fail
              go_ret
              exact ⟨ret_bool (by simp), HP.out.moreK (by omega)⟩
          · by_cases d4 : x.d = 4
            · obtain ⟨te, hte⟩ : ∃ te, (if twoB N x.a x.b = true then (0 : Int) else 1) = te := ⟨_, rfl⟩
              have HTE := Lib.hid hte
              clear hte
              have e0 : (x.d == 0) = false := by simpa using d0
              have e1 : (x.d == 1) = false := by simpa using d1
              have e8 : (x.d == 8) = false := by simpa using d8
              have e2 : (x.d == 2) = false := by simpa using d2
              have e3 : (x.d == 3) = false := by simpa using d3
              have e4 : (x.d == 4) = true := by simpa using d4
              simp only [if_neg d0]
              simp only [if_neg d1]
              simp only [if_neg d2]
              simp only [if_neg d3]
              simp only [if_pos d4]
              clear d0 d1 d8 d2 d3 d4
              go_wp2_with fail
              rw [← ho]
              clear ho
              have B0 := HBOX.out _ _ _ _ _ _ P0.out
              unfold BX at B0
              go_region_held3 (fun w' => w'.cell? ⟨w.heap.size, 1, none⟩ = some (.int .i64 x.a) ∧ w'.cell? ⟨w.heap.size, 2, none⟩ = some (.int .i64 x.b) ∧ w'.cell? ⟨w.heap.size, 3, none⟩ = some (.int .i64 x.i) ∧ w'.cell? ⟨w.heap.size, 4, none⟩ = some (.slice x.A x.bs.length x.c)) (first | exact B0 | exact B1 | exact B2)
                (first
                  | (go_at_call 18; refine ((P0.out.below ((Below.refl _ _).drew)).net fun _ _ hn => (by have q := c_cut hn x.a x.b; rw [HTE.out] at q; exact q)).mono ?_; rintro e w1 ⟨rfl, hp1⟩; have P1 := Lib.hid hp1; have B1 := HBOX.out _ _ _ _ _ _ hp1; unfold BX at B1; clear hp1)
                  | (go_at_call 41; refine ((P0.out.below ((Below.refl _ _).drew)).ref fun _ hn => (by have q := rCut_any hn (by omega) x.a x.b; rw [HTE.out] at q; exact q)).mono ?_; rintro e w1 ⟨rfl, hp1⟩; have P1 := Lib.hid hp1; have B1 := HBOX.out _ _ _ _ _ _ hp1; unfold BX at B1; clear hp1)
                  | (go_at_call 18; refine (P1.out.net fun _ _ hn => (by have q := c_cut hn x.a x.b; rw [HTE.out] at q; exact q)).mono ?_; rintro e w2 ⟨rfl, hp2⟩; have P2 := Lib.hid hp2; have B2 := HBOX.out _ _ _ _ _ _ hp2; unfold BX at B2; clear hp2)
                  | (go_at_call 41; refine (P1.out.ref fun _ hn => (by have q := rCut_any hn (by omega) x.a x.b; rw [HTE.out] at q; exact q)).mono ?_; rintro e w2 ⟨rfl, hp2⟩; have P2 := Lib.hid hp2; have B2 := HBOX.out _ _ _ _ _ _ hp2; unfold BX at B2; clear hp2))
              all_goals
                have HP := Lib.hid (HFIN.out _ _ _ _ _ _ P2.out)
                clear B0 B1 B2
                go_wp2_with fail
                go_ret
                exact ⟨ret_bool (by simp), HP.out.moreK (by omega)⟩
            · by_cases d5 : x.d = 5
              · obtain ⟨te, hte⟩ : ∃ te, (if twoB N x.a x.b = true then (0 : Int) else 1) = te := ⟨_, rfl⟩
                have HTE := Lib.hid hte
                clear hte
                have e0 : (x.d == 0) = false := by simpa using d0
                have e1 : (x.d == 1) = false := by simpa using d1
                have e8 : (x.d == 8) = false := by simpa using d8
                have e2 : (x.d == 2) = false := by simpa using d2
                have e3 : (x.d == 3) = false := by simpa using d3
                have e4 : (x.d == 4) = false := by simpa using d4
                have e5 : (x.d == 5) = true := by simpa using d5
                simp only [if_neg d0]
                simp only [if_neg d1]
                simp only [if_neg d2]
                simp only [if_neg d3]
                simp only [if_neg d4]
                simp only [if_pos d5]
                clear d0 d1 d8 d2 d3 d4 d5
                go_wp2_with fail
                rw [← ho]
                clear ho
                have B0 := HBOX.out _ _ _ _ _ _ P0.out
                unfold BX at B0
                go_region_held3 (fun w' => w'.cell? ⟨w.heap.size, 1, none⟩ = some (.int .i64 x.a) ∧ w'.cell? ⟨w.heap.size, 2, none⟩ = some (.int .i64 x.b) ∧ w'.cell? ⟨w.heap.size, 3, none⟩ = some (.int .i64 x.i) ∧ w'.cell? ⟨w.heap.size, 4, none⟩ = some (.slice x.A x.bs.length x.c)) (first | exact B0 | exact B1 | exact B2)
                  (first
                    | (go_at_call 19; refine ((P0.out.below ((Below.refl _ _).drew)).net fun _ _ hn => (by have q := c_heal hn x.a x.b; rw [HTE.out] at q; exact q)).mono ?_; rintro e w1 ⟨rfl, hp1⟩; have P1 := Lib.hid hp1; have B1 := HBOX.out _ _ _ _ _ _ hp1; unfold BX at B1; clear hp1)
                    | (go_at_call 42; refine ((P0.out.below ((Below.refl _ _).drew)).ref fun _ hn => (by have q := rHeal_any hn (by omega) x.a x.b; rw [HTE.out] at q; exact q)).mono ?_; rintro e w1 ⟨rfl, hp1⟩; have P1 := Lib.hid hp1; have B1 := HBOX.out _ _ _ _ _ _ hp1; unfold BX at B1; clear hp1)
                    | (go_at_call 19; refine (P1.out.net fun _ _ hn => (by have q := c_heal hn x.a x.b; rw [HTE.out] at q; exact q)).mono ?_; rintro e w2 ⟨rfl, hp2⟩; have P2 := Lib.hid hp2; have B2 := HBOX.out _ _ _ _ _ _ hp2; unfold BX at B2; clear hp2)
                    | (go_at_call 42; refine (P1.out.ref fun _ hn => (by have q := rHeal_any hn (by omega) x.a x.b; rw [HTE.out] at q; exact q)).mono ?_; rintro e w2 ⟨rfl, hp2⟩; have P2 := Lib.hid hp2; have B2 := HBOX.out _ _ _ _ _ _ hp2; unfold BX at B2; clear hp2))
                all_goals
                  have HP := Lib.hid (HFIN.out _ _ _ _ _ _ P2.out)
                  clear B0 B1 B2
                  go_wp2_with fail
                  go_ret
                  exact ⟨ret_bool (by simp), HP.out.moreK (by omega)⟩
              · by_cases d7 : x.d = 7
                · have e0 : (x.d == 0) = false := by simpa using d0
                  have e1 : (x.d == 1) = false := by simpa using d1
                  have e8 : (x.d == 8) = false := by simpa using d8
                  have e2 : (x.d == 2) = false := by simpa using d2
                  have e3 : (x.d == 3) = false := by simpa using d3
                  have e4 : (x.d == 4) = false := by simpa using d4
                  have e5 : (x.d == 5) = false := by simpa using d5
                  have e7 : (x.d == 7) = true := by simpa using d7
                  simp only [if_neg d0, if_neg d1, if_neg d2, if_neg d3, if_neg d4, if_neg d5]
                  clear d0 d1 d8 d2 d3 d4 d5 d7
                  obtain ⟨fr, hfr⟩ : ∃ fr, findP N cut (bag.map fun m => (m.f, m.t)) x.a x.b = fr := ⟨_, rfl⟩
                  have HFR := Lib.hid hfr
                  clear hfr
                  go_wp2_with fail
                  rw [← ho]
                  clear ho
                  have C1 := P0.out.net fun _ _ hn => (c_find hn x.a x.b).mono fun e w' hh => (show _ ∧ _ from ⟨hh.1, Net1.same hn hh.2⟩)
                  rw [HFR.out] at C1
                  refine C1.mono ?_
                  rintro e w1 ⟨rfl, hp1⟩
                  have P1 := Lib.hid hp1
                  have B1 := HBOX.out _ _ _ _ _ _ hp1
                  unfold BX at B1
                  obtain ⟨b1, b2, b3, b4⟩ := B1
                  have C2 := P1.out.ref fun _ hn => (rfind_any hn (by omega) x.a x.b).mono fun e w' hh => (show _ ∧ _ from ⟨hh.1, Ref1.same hn hh.2⟩)
                  rw [HFR.out] at C2
                  have CC2 := Lib.hid C2
                  clear hp1 C1 C2
                  cases fr with
                  | none =>
                    simp only [findV] at CC2 ⊢
                    go_wp2_with fail
                    refine CC2.out.mono ?_
                    rintro e w2 ⟨rfl, hp2⟩
                    have HP := Lib.hid (HFIN.out _ _ _ _ _ _ hp2)
                    clear hp2 b1 b2 b3 b4 CC2
                    go_wp2_with fail
                    go_ret
                    exact ⟨ret_bool (by simp), HP.out.moreK (by omega)⟩
                  | some fk =>
                    simp only [findV] at CC2 ⊢
                    go_wp2_with fail
                    refine CC2.out.mono ?_
                    rintro e w2 ⟨rfl, hp2⟩
                    have HP := Lib.hid (HFIN.out _ _ _ _ _ _ hp2)
                    clear hp2 b1 b2 b3 b4 CC2
                    go_wp2_with fail
                    go_ret
                    exact ⟨ret_bool (by simp), HP.out.moreK (by omega)⟩
                · have e0 : (x.d == 0) = false := by simpa using d0
                  have e1 : (x.d == 1) = false := by simpa using d1
                  have e8 : (x.d == 8) = false := by simpa using d8
                  have e2 : (x.d == 2) = false := by simpa using d2
                  have e3 : (x.d == 3) = false := by simpa using d3
                  have e4 : (x.d == 4) = false := by simpa using d4
                  have e5 : (x.d == 5) = false := by simpa using d5
                  have e7 : (x.d == 7) = false := by simpa using d7
                  simp only [if_neg d0, if_neg d1, if_neg d2, if_neg d3, if_neg d4, if_neg d5]
                  clear d0 d1 d8 d2 d3 d4 d5 d7
                  go_wp2_with fail
                  rw [← ho]
                  clear ho
                  have HP := Lib.hid (HFIN.out _ _ _ _ _ _ P0.out)
                  go_ret
                  exact ⟨rfl, HP.out.moreK (by omega)⟩
end Go.Proofs.Ytfmflbcmigiciaa
