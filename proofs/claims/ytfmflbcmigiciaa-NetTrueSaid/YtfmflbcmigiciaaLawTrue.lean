/- Chapter 05: whatever is done, what is delivered was sent, as often at most as it was sent and doubled. -/
import Derived.Test.YtfmflbcmigiciaaMany
namespace Go.Proofs.Ytfmflbcmigiciaa
open Go.RowKit

def Cnt (bag sent came : List Msg) : Prop := ∀ m, cntP bag m + cntP came m ≤ cntP sent m
theorem Cnt.put {bag sent came : List Msg} (h : Cnt bag sent came) (x : Msg) : Cnt (bag ++ [x]) (sent ++ [x]) came := fun m => by
  rw [cnt_append, cnt_append]; have := h m; omega
theorem Cnt.erase {bag sent came : List Msg} (h : Cnt bag sent came) {k : Nat} {x : Msg} (hk : bag[k]? = some x) : Cnt (bag.eraseIdx k) sent came := fun m => by
  have := h m; rw [cnt_erase hk m] at this; omega
theorem Cnt.take {bag sent came : List Msg} (h : Cnt bag sent came) {k : Nat} {x : Msg} (hk : bag[k]? = some x) : Cnt (bag.eraseIdx k) sent (came ++ [x]) := fun m => by
  have := h m; rw [cnt_erase hk m] at this; rw [cnt_append]; omega

theorem raw_one1 (r : Raw) : ∀ u ∈ r.cs, u.oneCell' = true := by
  intro u hu
  simp only [Raw.cs, List.mem_cons, List.not_mem_nil, or_false] at hu
  rcases hu with rfl | rfl | rfl <;> rfl
theorem NetAt.msg_le {w : World} {R : Nat → Prop} {G : Nat} {A : Option Addr} {N : Int} {cut : Nat → Nat → Bool} {bag : List Msg} (h : NetAt w R G A N cut bag) {k : Nat} {m : Msg} (hk : bag[k]? = some m) : m.bs.length ≤ 1000000000 := by
  obtain ⟨c, rs, _, _, h3⟩ := h.ex
  obtain ⟨_, _, _, _, hle⟩ := h3.get hk
  exact hle
theorem NetAt.atR_le {w : World} {R : Nat → Prop} {G : Nat} {A : Option Addr} {N : Int} {cut : Nat → Nat → Bool} {bag : List Msg} (h : NetAt w R G A N cut bag) (i : Int) : (atR bag i).1.bs.length ≤ 1000000000 := by
  unfold atR
  cases ha : atP bag i with
  | none => simp [m0]
  | some m =>
    obtain ⟨k, _, _, hkm⟩ := atP_some ha
    exact h.msg_le hkm
theorem count_row {w0 w : World} {R : Nat → Prop} {A : Option Addr} {c : Nat} {ms : List Msg} {m : Msg} {Am : Option Addr} {cm : Nat} (h : LRow w0 w R (.slice A ms.length c) ms) (hb : BR w w.heap.size Am m.bs) (hl : ms.length ≤ 100000) :
    Calls Try.prog 14 #[.slice A ms.length c, msgV m Am cm] w fun e w' => e = .returned (.int .i64 (cntP ms m)) ∧ Below w.heap.size w w' := by
  obtain ⟨rs, ho, hm⟩ := h.ex
  exact count_any ms rs m R A Am c cm w (by unfold MR; rw [hm.1]; exact Reads.of_own ho) hm hb hl

set_option maxRecDepth 100000 in
set_option maxHeartbeats 8000000 in
theorem lawTrue_any (N : Int) (l : List ActM) (A : Option Addr) (c : Nat) (w : World) (h : AR w w.heap.size A l) (hl : l.length ≤ maxLen) (hok : ∀ x ∈ l, x.Ok w) :
    Calls Try.prog 4 #[.int .i64 N, .slice A l.length c] w fun e w' => e = .returned (.bool true) ∧ Below w.heap.size w w' := by
  have H := Lib.hid h
  have HOK := Lib.hid hok
  have HL := Lib.hid hl
  clear h hok hl
  by_cases hN : 1 ≤ N ∧ N ≤ 15
  · obtain ⟨hN1, hN2⟩ := hN
    have C := Lib.hid (c_new N w (fun k => k < w.heap.size) (fun _ h => h) hN1 hN2)
    go_enter Try.func4, Try.ntmps4
    go_wp2_with fail
    refine C.out.mono ?_
    rintro e w1 ⟨rfl, hM, hb1, -⟩
    unfold gp
    have M1 := Lib.hid hM
    have HB1 := Lib.hid hb1
    have CM := Lib.hid (many_any l A c w.heap.size w1 (H.out.below hb1) hb1.size (fun x hx => Nat.le_trans (HOK.out x hx).le (HOK.out x hx).cap) HL.out)
    clear hM hb1 C
    go_wp2_with fail
    refine CM.out.mono ?_
    rintro e w2 ⟨hw, hor⟩
    subst hw
    rcases hor with rfl | ⟨rfl, hl6, hbs⟩
    · clear CM
      go_wp2_with fail
      refine (awake_any w1).mono ?_
      rintro e w3 ⟨rfl, hb⟩
      have HB := Lib.hid (HB1.out.trans (hb.mono HB1.out.size))
      clear hb
      go_wp2_with fail
      go_ret
      exact ⟨rfl, HB.out⟩
    · have HBS := Lib.hid hbs
      have HTB : Hid (TB w w1 (fun k => k < w.heap.size) w.heap.size none N (fun _ _ => false) [] (.slice none 0 0) (.slice none 0 0) [] []) := Lib.hid ⟨M1.out, LRow.nil _ _ _, LRow.nil _ _ _, fun _ h => h, fun x h => (by cases h), fun x h => (by cases h), fun x h => (by cases h)⟩
      clear CM hbs M1 hN1 hN2
      go_wp2_with fail
      go_loopw [7, 8, 9] (fun sv cv iv wr => ∃ (j : Nat) (R : Nat → Prop) (Ar : Option Addr) (cut : Nat → Nat → Bool) (bag sent came : List Msg) (A7 A8 : Option Addr) (c7 c8 : Nat), j ≤ l.length ∧ iv = .int .i64 j ∧ sv = .slice A7 sent.length c7 ∧ cv = .slice A8 came.length c8 ∧ sent.length ≤ j ∧ came.length ≤ j ∧
        TB w wr R w.heap.size Ar N cut bag (.slice A7 sent.length c7) (.slice A8 came.length c8) sent came ∧ Cnt bag sent came) (fun _ _ iv _ => l.length - (intOf iv).toNat)
      case atStart => exact ⟨0, _, _, _, [], [], [], none, none, 0, 0, Nat.zero_le _, rfl, rfl, rfl, Nat.le_refl _, Nat.le_refl _, HTB.out, fun m => by simp [cntP]⟩
      case round =>
        clear HTB HB1
        obtain ⟨j, R, Ar, cut, bag, sent, came, A7, A8, c7, c8, hj, rfl, rfl, rfl, hsj, hcj, htb, hcn⟩ := hrel
        have T0 := Lib.hid htb
        have HCN := Lib.hid hcn
        clear htb hcn
        by_cases hlt : j < l.length
        · have hbw := T0.out.mine.below
          obtain ⟨b, o, x, hA, hBb, hx, hxe, y0, y1, y2, y3, y4⟩ := act_elem (H.out.below hbw) hlt
          have hxm := List.mem_of_getElem? hx
          have hxr := (HOK.out x hxm).rd
          have hxl := HBS.out x hxm
          subst hA
          have hb : b < wr.heap.size := by have := hbw.size; omega
          have HXR := Lib.hid hxr
          clear hx hxe hxm hxr hbw
          go_wp2_with fail
          obtain ⟨W1, hW1⟩ : ∃ W1, W1 = wr.alloc (.cells #[.int .i64 x.d, .int .i64 x.a, .int .i64 x.b, .int .i64 x.i, .slice x.A x.bs.length x.c] 41) := ⟨_, rfl⟩
          have hb1 : Below wr.heap.size wr W1 := by rw [hW1]; exact (Below.refl _ _).alloc (Nat.le_refl _) _
          have k1 : Blk W1 wr.heap.size 41 #[.int .i64 x.d, .int .i64 x.a, .int .i64 x.b, .int .i64 x.i, .slice x.A x.bs.length x.c] := by rw [hW1]; exact Blk.new _ _ _
          have T1 := Lib.hid (T0.out.below hb1)
          have K1 := Lib.hid k1
          have hwn : ∀ k, Go.Proofs.Ytfmflbcmigiciaa.wr w.heap.size Ar k → k < wr.heap.size := fun k hk => T0.out.mine.net.wr_lt hk
          have HWN := Lib.hid hwn
          rw [← hW1]
          clear hW1 hb1 T0 y0 y1 y2 y3 y4 hwn
          refine (c_len T1.out.mine.net).mono ?_
          rintro e w2 ⟨rfl, hw⟩
          subst hw
          have x0 := k1.cell 0
          have x1 := k1.cell 1
          have x2 := k1.cell 2
          have x3 := k1.cell 3
          have x4 := k1.cell 4
          have xl := k1.lt
          have hxb := HXR.out.below T1.out.mine.below
          have HXB := Lib.hid (hxb.more T1.out.mine.below.size)
          clear k1 hxb
          by_cases d0 : x.d = 0
          · have e0 : (x.d == 0) = true := by simpa using d0
            have C := c_send T1.out.mine.net x.a x.b x.bs x.A x.c HXB.out
            rcases sendP_or N cut bag x.a x.b x.bs with hse | ⟨fe, hfe, hse⟩
            · rw [hse] at C
              have CC := Lib.hid C
              clear C hse d0
              go_wp2_with fail
              refine CC.out.mono ?_
              rintro e w3 ⟨rfl, hn⟩
              obtain ⟨R3, A3, htb, hu⟩ := T1.out.net hn
              have k3 := K1.out.far_ hu.far (fun hk => by have := HWN.out _ hk; omega)
              have z1 := k3.cell 1
              have z2 := k3.cell 2
              have z4 := k3.cell 4
              have zl := k3.lt
              have T2 := Lib.hid htb
              have hxr3 : MsgAt R3 w3 ⟨x.a, x.b, x.A, x.bs.length, x.c⟩ ⟨x.a, x.b, x.bs⟩ := ⟨rfl, rfl, rfl, by simp only []; omega, (HXR.out.below htb.mine.below).more htb.mine.below.size, fun hp ad e => by
                obtain ⟨ad', e', hB, _⟩ := HXR.out.2 hp
                have e2 : x.A = some ad := e
                rw [e2] at e'; cases e'
                exact htb.base _ hB⟩
              have HXM := Lib.hid hxr3
              clear htb hn hu k3 x0 x1 x2 x3 x4 CC T1 hxr3
              obtain ⟨mm, hmm⟩ : ∃ mm : Msg, mm = ⟨x.a, x.b, x.bs⟩ := ⟨_, rfl⟩
              obtain ⟨mA, hmA⟩ : ∃ mA, mA = x.A := ⟨_, rfl⟩
              obtain ⟨mc, hmc⟩ : ∃ mc, mc = x.c := ⟨_, rfl⟩
              have q1 : x.a = mm.f := by rw [hmm]
              have q2 : x.b = mm.t := by rw [hmm]
              have q3 : x.bs = mm.bs := by rw [hmm]
              rw [q1] at z1
              rw [q2] at z2
              rw [q3, ← hmA, ← hmc] at z4
              rw [← hmm, ← hmA, ← hmc, q1, q2, q3] at HXM
              rw [← hmm] at T2
              have HMM := Lib.hid hmm
              clear q1 q2 q3 hmm hmA hmc
              obtain ⟨i0, hi, hz0, hz1, hz2⟩ := info_parts info33
              obtain ⟨rs, ho7, hms⟩ := T2.out.s.ex
              have hwa := (Below.refl (w3).heap.size (w3)).alloc (Nat.le_refl _) (.cells #[.int .i64 mm.f, .int .i64 mm.t, .slice mA mm.bs.length mc] 33)
              have HO7 := Lib.hid ho7
              have HMS := Lib.hid hms
              have HO7a := Lib.hid (own_below0 ho7 hwa)
              have HR1 := Lib.hid (show Reads ((w3).alloc (.cells #[.int .i64 mm.f, .int .i64 mm.t, .slice mA mm.bs.length mc] 33)) ((w3).alloc (.cells #[.int .i64 mm.f, .int .i64 mm.t, .slice mA mm.bs.length mc] 33)).heap.size 3 (some ⟨w3.heap.size, 0, none⟩) 1 (Raw.cs ⟨mm.f, mm.t, mA, mm.bs.length, mc⟩) from Reads.of_blk (blk_newAt (by simp) 33 #[.int .i64 mm.f, .int .i64 mm.t, .slice mA mm.bs.length mc]) rfl rfl)
              have hsw : w.heap.size ≤ (w3).heap.size := T2.out.mine.below.size
              clear ho7 hms hwa
              go_wp2_with (at_builtin; refine wpList_append_any _ rfl (.tmp 55) (.tmp 63) 39 rfl w.heap.size 33 i0 _ 3 40 Try.underlying39 hi hz0 hz1 hz2 rfl (by decide) (.slice A7 sent.length c7) sent.length (rs.flatMap Raw.cs) rfl HO7a.out _ (some ⟨w3.heap.size, 0, none⟩) 1 1 (Raw.cs ⟨mm.f, mm.t, mA, mm.bs.length, mc⟩) rfl HR1.out (raw_one1 _) ?c1 ?c2 ?c3 ?_)
              case c1 => simp only [maxLen]; omega
              case c2 => omega
              case c3 => simp at hsw ⊢; omega
              intro v9 w9 hown9 hgr9 hat9
              obtain ⟨A9, c9, rfl, -, -⟩ := own_form hown9
              have ht9 := T2.out.put HO7.out HMS.out HXM.out hown9 hgr9 (hat9.imp id fun h => by simpa using h)
              have hl9 : (sent ++ [mm]).length = sent.length + 1 := by simp
              rw [← hl9] at ht9 ⊢
              have hsl : (sent ++ [mm]).length ≤ j + 1 := by rw [hl9]; omega
              have HC2 := Lib.hid (show Cnt (bag ++ [mm]) (sent ++ [mm]) came from HCN.out.put mm)
              clear T2
              have T2 := Lib.hid ht9
              generalize sent ++ [mm] = sent2 at T2 HC2 hsl ⊢
              clear ht9 hl9 z1 z2 z4
              clear hown9 hgr9 hat9 HO7 HMS HO7a HR1 HXM hi hz0 hz1 hz2
              have T2L := Lib.hid (c_len T2.out.mine.net)
              have hb2 : (bag ++ [mm]).length ≤ 64 := T2.out.mine.net.len
              have dn : decide (64 < (bag ++ [mm]).length) = false := decide_eq_false (by omega)
              have di : decide ((64 : Int) < (((bag ++ [mm]).length : Nat) : Int)) = false := decide_eq_false (by omega)
              generalize (bag ++ [mm]).length = bn at T2L dn di hb2 ⊢
              go_wp2_with fail
              refine T2L.out.mono ?_
              rintro e w6 ⟨rfl, hw⟩
              subst hw
              go_wp2_with fail
              go_roundw
              case rel => exact ⟨j + 1, _, _, _, _, _, _, _, _, _, _, by omega, by go_num, rfl, rfl, by first | omega | (simp; omega), by first | omega | (simp; omega), T2.out, HC2.out⟩
              case measure => simp [intOf]; omega
            · rw [hse] at C
              have CC := Lib.hid C
              clear C hse d0
              have f0 : (fe == 0) = false := by simpa using hfe
              go_wp2_with fail
              refine CC.out.mono ?_
              rintro e w3 ⟨rfl, hn⟩
              obtain ⟨R3, A3, htb, hu⟩ := T1.out.net hn
              have T2 := Lib.hid htb
              have HC2 := HCN
              clear htb hn hu x0 x1 x2 x3 x4 CC T1
              have T2L := Lib.hid (c_len T2.out.mine.net)
              have hb2 : bag.length ≤ 64 := T2.out.mine.net.len
              have dn : decide (64 < bag.length) = false := decide_eq_false (by omega)
              have di : decide ((64 : Int) < (bag.length : Int)) = false := decide_eq_false (by omega)
              have f1 : (fe == 0) = false := by simpa using hfe
              have f2 : (fe != 0) = true := by simpa using hfe
              go_wp2_with fail
              refine T2L.out.mono ?_
              rintro e w6 ⟨rfl, hw⟩
              subst hw
              go_wp2_with fail
              refine T2L.out.mono ?_
              rintro e w6 ⟨rfl, hw⟩
              subst hw
              go_wp2_with fail
              go_roundw
              case rel => exact ⟨j + 1, _, _, _, _, _, _, _, _, _, _, by omega, by go_num, rfl, rfl, by omega, by omega, T2.out, HC2.out⟩
              case measure => simp [intOf]; omega
          · by_cases d1 : x.d = 1
            · have e0 : (x.d == 0) = false := by simpa using d0
              have e1 : (x.d == 1) = true := by simpa using d1
              have C := c_deliver T1.out.mine.net x.i
              rcases delP_or N cut bag x.i with ⟨kk, mm, hkm, hse⟩ | ⟨fe, hfe, hse⟩
              · rw [hse] at C
                simp only [] at C
                have CC := Lib.hid C
                have hkl := (List.getElem?_eq_some_iff.1 hkm).1
                have HC9 := Lib.hid (HCN.out.take hkm)
                have hmle := T1.out.mine.net.msg_le hkm
                have hlen2 : (bag.eraseIdx kk).length = bag.length - 1 := by rw [List.length_eraseIdx, if_pos hkl]
                obtain ⟨bag2, hbag2⟩ : ∃ bag2, bag2 = bag.eraseIdx kk := ⟨_, rfl⟩
                rw [← hbag2] at CC HC9 hlen2
                obtain ⟨n2, hn2⟩ : ∃ n2, bag.length = n2 + 1 := ⟨bag.length - 1, by omega⟩
                rw [hn2] at hlen2 ⊢
                have hn3 : n2 ≤ 64 := by have := T1.out.mine.net.len; omega
                rw [show n2 + 1 - 1 = n2 by omega] at hlen2
                clear C hse d1 hkm hbag2 hkl hn2
                go_wp2_with fail
                refine CC.out.mono ?_
                rintro e w3 ⟨mA, mc, rfl, hom, hn⟩
                obtain ⟨R3, A3, htb, hu⟩ := T1.out.net hn
                unfold msgV
                obtain ⟨W4, hW4⟩ : ∃ W4, W4 = w3.alloc (.cells #[.int .i64 mm.f, .int .i64 mm.t, .slice mA mm.bs.length mc] 33) := ⟨_, rfl⟩
                have hb4 : Below w3.heap.size w3 W4 := by rw [hW4]; exact (Below.refl _ _).alloc (Nat.le_refl _) _
                have k4 : Blk W4 w3.heap.size 33 #[.int .i64 mm.f, .int .i64 mm.t, .slice mA mm.bs.length mc] := by rw [hW4]; exact Blk.new _ _ _
                have ht4 := htb.below hb4
                have hom4 := hom.below hb4
                obtain ⟨ht5, hxm5⟩ := ht4.own hom4 (g := w3.heap.size) k4.lt (fun hk => by have := htb.mine.net.wr_lt hk; omega) (fun hk => by have := (htb.s.lt hk).2; omega) (fun hk => by have := (htb.c.lt hk).2; omega) hmle
                have T2 := Lib.hid ht5.swap
                have HXM := Lib.hid hxm5
                have K4 := Lib.hid k4
                rw [hW4] at T2 HXM
                clear htb hn hu x0 x1 x2 x3 x4 CC T1 hom hb4 k4 ht4 hom4 ht5 hxm5
                obtain ⟨i0, hi, hz0, hz1, hz2⟩ := info_parts info33
                obtain ⟨rs, ho7, hms⟩ := T2.out.s.ex
                have hwa := (Below.refl (w3.alloc (.cells #[.int .i64 mm.f, .int .i64 mm.t, .slice mA mm.bs.length mc] 33)).heap.size (w3.alloc (.cells #[.int .i64 mm.f, .int .i64 mm.t, .slice mA mm.bs.length mc] 33))).alloc (Nat.le_refl _) (.cells #[.int .i64 mm.f, .int .i64 mm.t, .slice mA mm.bs.length mc] 33)
                have HO7 := Lib.hid ho7
                have HMS := Lib.hid hms
                have HO7a := Lib.hid (own_below0 ho7 hwa)
                have HR1 := Lib.hid (show Reads ((w3.alloc (.cells #[.int .i64 mm.f, .int .i64 mm.t, .slice mA mm.bs.length mc] 33)).alloc (.cells #[.int .i64 mm.f, .int .i64 mm.t, .slice mA mm.bs.length mc] 33)) ((w3.alloc (.cells #[.int .i64 mm.f, .int .i64 mm.t, .slice mA mm.bs.length mc] 33)).alloc (.cells #[.int .i64 mm.f, .int .i64 mm.t, .slice mA mm.bs.length mc] 33)).heap.size 3 (some ⟨w3.heap.size + 1, 0, none⟩) 1 (Raw.cs ⟨mm.f, mm.t, mA, mm.bs.length, mc⟩) from Reads.of_blk (blk_newAt (by simp) 33 #[.int .i64 mm.f, .int .i64 mm.t, .slice mA mm.bs.length mc]) rfl rfl)
                have hsw : w.heap.size ≤ (w3.alloc (.cells #[.int .i64 mm.f, .int .i64 mm.t, .slice mA mm.bs.length mc] 33)).heap.size := T2.out.mine.below.size
                clear ho7 hms hwa
                go_wp2_with (at_builtin; refine wpList_append_any _ rfl (.tmp 77) (.tmp 79) 39 rfl w.heap.size 33 i0 _ 3 40 Try.underlying39 hi hz0 hz1 hz2 rfl (by decide) (.slice A8 came.length c8) came.length (rs.flatMap Raw.cs) rfl HO7a.out _ (some ⟨w3.heap.size + 1, 0, none⟩) 1 1 (Raw.cs ⟨mm.f, mm.t, mA, mm.bs.length, mc⟩) rfl HR1.out (raw_one1 _) ?c1 ?c2 ?c3 ?_)
                case c1 => simp only [maxLen]; omega
                case c2 => omega
                case c3 => simp at hsw ⊢; omega
                intro v9 w9 hown9 hgr9 hat9
                obtain ⟨A9, c9, rfl, -, -⟩ := own_form hown9
                have ht9 := T2.out.put HO7.out HMS.out HXM.out hown9 hgr9 (hat9.imp id fun h => by simpa using h)
                have hl9 : (came ++ [mm]).length = came.length + 1 := by simp
                rw [← hl9] at ht9 ⊢
                have hsl : (came ++ [mm]).length ≤ j + 1 := by rw [hl9]; omega
                have hput := T2.out.put_upd hgr9
                have hK9 := blk_upd (hW4 ▸ K4.out) hput (.inr (.inl rfl))
                have hX9 := HXM.out.upd hput
                have HC2 := Lib.hid (show Cnt bag2 sent (came ++ [mm]) from HC9.out)
                clear T2
                have T2 := Lib.hid ht9.swap
                have K9 := Lib.hid hK9
                have X9 := Lib.hid hX9
                generalize came ++ [mm] = came2 at T2 HC2 hsl ⊢
                clear ht9 hput hK9 hX9 K4 hW4 HC9 hl9
                clear hown9 hgr9 hat9 HO7 HMS HO7a HR1 HXM hi hz0 hz1 hz2
                go_wp2_with fail
                obtain ⟨ca, hca⟩ : ∃ ca, cntP came2 mm = ca := ⟨_, rfl⟩
                obtain ⟨cs, hcs⟩ : ∃ cs, cntP sent mm = cs := ⟨_, rfl⟩
                have hcc : ca ≤ cs := by have := HC2.out mm; omega
                have g1 : decide (cs < ca) = false := decide_eq_false (by omega)
                have g2 : decide ((cs : Int) < ca) = false := decide_eq_false (by omega)
                have HCA := Lib.hid hca
                have HCS := Lib.hid hcs
                have HL2 := Lib.hid hlen2
                clear hca hcs hlen2
                refine Seg.region [(14, true)] (by kernel_rfl) (by kernel_rfl) ?_
                intro ι _ f hf hxx
                simp only [List.take_succ_cons, List.take_zero, List.drop_succ_cons, List.drop_zero]
                have hf := fun i => below_of_drew (hf i)
                obtain ⟨a0, a1, a2⟩ := blk_cells3 (fun i => K9.out.below (hf i) K9.out.lt)
                have HTF := Lib.hid (fun i => T2.out.below (hf i))
                have HLN : Hid (∀ i, Calls Try.prog 11 #[gp w.heap.size] (f i) fun e w' => e = .returned (.int .i64 n2) ∧ f i = w') := Lib.hid (fun i => by
                  have := c_len (T2.out.below (hf i)).mine.net
                  rw [HL2.out] at this
                  exact this)
                have HNA : Hid (∀ i, Calls Try.prog 14 #[.slice A9 came2.length c9, msgV mm mA mc] (f i) fun e w' => e = .returned (.int .i64 ca) ∧ Below (f i).heap.size (f i) w') := Lib.hid (fun i => by
                  have := count_row (T2.out.below (hf i)).c (m := mm) (Am := mA) (cm := mc) (X9.out.rd.reads.below (hf i) |>.more (hf i).size) (by omega)
                  rw [HCA.out] at this
                  exact this)
                have HNS : Hid (∀ i, Calls Try.prog 14 #[.slice A7 sent.length c7, msgV mm mA mc] (f i) fun e w' => e = .returned (.int .i64 cs) ∧ Below (f i).heap.size (f i) w') := Lib.hid (fun i => by
                  have := count_row (T2.out.below (hf i)).s (m := mm) (Am := mA) (cm := mc) (X9.out.rd.reads.below (hf i) |>.more (hf i).size) (by omega)
                  rw [HCS.out] at this
                  exact this)
                clear hf
                unfold msgV at HNA HNS
                iterate 8 (go_big_quiet_step ((go_at_call 11; exact (HLN.out _).mono fun _ _ hh => ⟨hh.1, _, hh.2.symm⟩)))
                go_big_quiet_step ((go_at_call 14; exact (HNA.out _).mono fun _ _ hh => ⟨hh.1, hxx _ _ hh.2⟩))
                iterate 2 (go_big_quiet_step (fail))
                go_big_quiet_step ((go_at_call 14; exact (HNS.out _).mono fun _ _ hh => ⟨hh.1, hxx _ _ hh.2⟩))
                repeat (go_big_quiet_step (fail))
                refine wpQuiet_nil ?_
                intro i
                have hti := HTF.out i
                have T3 := Lib.hid hti
                have T2L := Lib.hid (c_len hti.mine.net)
                clear hti
                simp only [Seg.Walk]
                clear T2
                have T2 := T3
                have hb2 : (bag2).length ≤ 64 := T2.out.mine.net.len
                have dn : decide (64 < (bag2).length) = false := decide_eq_false (by omega)
                have di : decide ((64 : Int) < (((bag2).length : Nat) : Int)) = false := decide_eq_false (by omega)
                generalize (bag2).length = bn at T2L dn di hb2 ⊢
                go_wp2_with fail
                refine T2L.out.mono ?_
                rintro e w6 ⟨rfl, hw⟩
                subst hw
                go_wp2_with fail
                go_roundw
                case rel => exact ⟨j + 1, _, _, _, _, _, _, _, _, _, _, by omega, by go_num, rfl, rfl, by first | omega | (simp; omega), by first | omega | (simp; omega), T2.out, HC2.out⟩
                case measure => simp [intOf]; omega
              · rw [hse] at C
                simp only [] at C
                have CC := Lib.hid C
                clear C hse d1
                have f0 : (fe == 0) = false := by simpa using hfe
                go_wp2_with fail
                refine CC.out.mono ?_
                rintro e w3 ⟨mA, mc, rfl, hom, hn⟩
                obtain ⟨R3, A3, htb, hu⟩ := T1.out.net hn
                unfold msgV m0
                have hb4 := (Below.refl w3.heap.size w3).alloc (Nat.le_refl _) (.cells #[.int .i64 0, .int .i64 0, .slice mA 0 mc] 33)
                have T2 := Lib.hid (htb.below hb4)
                have HC2 := HCN
                clear htb hn hu x0 x1 x2 x3 x4 CC T1 hom hb4
                have T2L := Lib.hid (c_len T2.out.mine.net)
                have hb2 : bag.length ≤ 64 := T2.out.mine.net.len
                have dn : decide (64 < bag.length) = false := decide_eq_false (by omega)
                have di : decide ((64 : Int) < (bag.length : Int)) = false := decide_eq_false (by omega)
                have f1 : (fe == 0) = false := by simpa using hfe
                have f2 : (fe != 0) = true := by simpa using hfe
                go_wp2_with fail
                refine T2L.out.mono ?_
                rintro e w6 ⟨rfl, hw⟩
                subst hw
                go_wp2_with fail
                refine T2L.out.mono ?_
                rintro e w6 ⟨rfl, hw⟩
                subst hw
                go_wp2_with fail
                go_roundw
                case rel => exact ⟨j + 1, _, _, _, _, _, _, _, _, _, _, by omega, by go_num, rfl, rfl, by omega, by omega, T2.out, HC2.out⟩
                case measure => simp [intOf]; omega
            · by_cases d2 : x.d = 2
              · have e0 : (x.d == 0) = false := by simpa using d0
                have e1 : (x.d == 1) = false := by simpa using d1
                have e2 : (x.d == 2) = true := by simpa using d2
                have C := c_drop T1.out.mine.net x.i
                rcases dropP_or bag x.i with ⟨kk, mm, hkm, hse⟩ | ⟨fe, hfe, hse⟩
                · rw [hse] at C
                  simp only [] at C
                  have CC := Lib.hid C
                  have HC2 := Lib.hid (HCN.out.erase hkm)
                  clear C hse d2 hkm
                  go_wp2_with fail
                  refine CC.out.mono ?_
                  rintro e w3 ⟨rfl, hn⟩
                  obtain ⟨R3, A3, htb, hu⟩ := T1.out.net hn
                  have T2 := Lib.hid htb
                  clear htb hn hu x0 x1 x2 x3 x4 CC T1
                  have T2L := Lib.hid (c_len T2.out.mine.net)
                  have hb2 : (bag.eraseIdx kk).length ≤ 64 := T2.out.mine.net.len
                  have dn : decide (64 < (bag.eraseIdx kk).length) = false := decide_eq_false (by omega)
                  have di : decide ((64 : Int) < (((bag.eraseIdx kk).length : Nat) : Int)) = false := decide_eq_false (by omega)
                  generalize (bag.eraseIdx kk).length = bn at T2L dn di hb2 ⊢
                  go_wp2_with fail
                  refine T2L.out.mono ?_
                  rintro e w6 ⟨rfl, hw⟩
                  subst hw
                  go_wp2_with fail
                  go_roundw
                  case rel => exact ⟨j + 1, _, _, _, _, _, _, _, _, _, _, by omega, by go_num, rfl, rfl, by first | omega | (simp; omega), by first | omega | (simp; omega), T2.out, HC2.out⟩
                  case measure => simp [intOf]; omega
                · rw [hse] at C
                  simp only [] at C
                  have CC := Lib.hid C
                  clear C hse d2
                  go_wp2_with fail
                  refine CC.out.mono ?_
                  rintro e w3 ⟨rfl, hn⟩
                  obtain ⟨R3, A3, htb, hu⟩ := T1.out.net hn
                  have T2 := Lib.hid htb
                  have HC2 := HCN
                  clear htb hn hu x0 x1 x2 x3 x4 CC T1
                  have T2L := Lib.hid (c_len T2.out.mine.net)
                  have hb2 : bag.length ≤ 64 := T2.out.mine.net.len
                  have dn : decide (64 < bag.length) = false := decide_eq_false (by omega)
                  have di : decide ((64 : Int) < (bag.length : Int)) = false := decide_eq_false (by omega)
                  have f1 : (fe == 0) = false := by simpa using hfe
                  have f2 : (fe != 0) = true := by simpa using hfe
                  go_wp2_with fail
                  refine T2L.out.mono ?_
                  rintro e w6 ⟨rfl, hw⟩
                  subst hw
                  go_wp2_with fail
                  refine T2L.out.mono ?_
                  rintro e w6 ⟨rfl, hw⟩
                  subst hw
                  go_wp2_with fail
                  go_roundw
                  case rel => exact ⟨j + 1, _, _, _, _, _, _, _, _, _, _, by omega, by go_num, rfl, rfl, by omega, by omega, T2.out, HC2.out⟩
                  case measure => simp [intOf]; omega
              · by_cases d3 : x.d = 3
                · have e0 : (x.d == 0) = false := by simpa using d0
                  have e1 : (x.d == 1) = false := by simpa using d1
                  have e2 : (x.d == 2) = false := by simpa using d2
                  have e3 : (x.d == 3) = true := by simpa using d3
                  have CA := Lib.hid (c_at T1.out.mine.net x.i)
                  have hmle : (atR bag x.i).1.bs.length ≤ 1000000000 := T1.out.mine.net.atR_le x.i
                  have hor := dblP_or bag x.i
                  generalize (atR bag x.i).1 = mm at CA hmle hor
                  generalize (atR bag x.i).2 = me at CA
                  have HOR := Lib.hid hor
                  clear hor d3
                  go_wp2_with fail
                  refine CA.out.mono ?_
                  rintro e w3 ⟨mA, mc, rfl, hbA, hom⟩
                  unfold msgV
                  have htb := T1.out.below hbA
                  have K3 := Lib.hid (K1.out.below hbA K1.out.lt)
                  obtain ⟨W4, hW4⟩ : ∃ W4, W4 = w3.alloc (.cells #[.int .i64 mm.f, .int .i64 mm.t, .slice mA mm.bs.length mc] 33) := ⟨_, rfl⟩
                  have hb4 : Below w3.heap.size w3 W4 := by rw [hW4]; exact (Below.refl _ _).alloc (Nat.le_refl _) _
                  have k4 : Blk W4 w3.heap.size 33 #[.int .i64 mm.f, .int .i64 mm.t, .slice mA mm.bs.length mc] := by rw [hW4]; exact Blk.new _ _ _
                  have ht4 := htb.below hb4
                  have hom4 := hom.below hb4
                  obtain ⟨ht5, hxm5⟩ := ht4.own hom4 (g := w3.heap.size) k4.lt (fun hk => by have := htb.mine.net.wr_lt hk; omega) (fun hk => by have := (htb.s.lt hk).2; omega) (fun hk => by have := (htb.c.lt hk).2; omega) hmle
                  have z3 := K3.out.cell 3
                  have zl := K3.out.lt
                  have T4 := Lib.hid ht5
                  have HXM4 := Lib.hid hxm5
                  have K4 := Lib.hid k4
                  have C := c_double ht5.mine.net x.i
                  rcases HOR.out with hse | ⟨fe, hfe, hse⟩
                  · rw [hse] at C
                    simp only [] at C
                    have CC := Lib.hid C
                    clear htb x0 x1 x2 x3 x4 T1 hom hb4 k4 ht4 hom4 ht5 hxm5 C hse CA hbA
                    go_wp2_with fail
                    rw [← hW4]
                    clear hW4
                    refine CC.out.mono ?_
                    rintro e w5 ⟨rfl, hn⟩
                    obtain ⟨R3, A3, htb, hu⟩ := T4.out.net hn
                    have hk5 := blk_upd K4.out hu (.inr (.inl rfl))
                    obtain ⟨z0, z1, z2⟩ := blk_cell3 hk5
                    have zl5 := hk5.lt
                    have T2 := Lib.hid htb
                    have HXM := Lib.hid (HXM4.out.upd hu)
                    clear htb hn hu CC T4 HXM4 K4 hk5 z3 zl
                    obtain ⟨i0, hi, hz0, hz1, hz2⟩ := info_parts info33
                    obtain ⟨rs, ho7, hms⟩ := T2.out.s.ex
                    have hwa := (Below.refl (w5).heap.size (w5)).alloc (Nat.le_refl _) (.cells #[.int .i64 mm.f, .int .i64 mm.t, .slice mA mm.bs.length mc] 33)
                    have HO7 := Lib.hid ho7
                    have HMS := Lib.hid hms
                    have HO7a := Lib.hid (own_below0 ho7 hwa)
                    have HR1 := Lib.hid (show Reads ((w5).alloc (.cells #[.int .i64 mm.f, .int .i64 mm.t, .slice mA mm.bs.length mc] 33)) ((w5).alloc (.cells #[.int .i64 mm.f, .int .i64 mm.t, .slice mA mm.bs.length mc] 33)).heap.size 3 (some ⟨w5.heap.size, 0, none⟩) 1 (Raw.cs ⟨mm.f, mm.t, mA, mm.bs.length, mc⟩) from Reads.of_blk (blk_newAt (by simp) 33 #[.int .i64 mm.f, .int .i64 mm.t, .slice mA mm.bs.length mc]) rfl rfl)
                    have hsw : w.heap.size ≤ (w5).heap.size := T2.out.mine.below.size
                    clear ho7 hms hwa
                    go_wp2_with (at_builtin; refine wpList_append_any _ rfl (.tmp 116) (.tmp 118) 39 rfl w.heap.size 33 i0 _ 3 40 Try.underlying39 hi hz0 hz1 hz2 rfl (by decide) (.slice A7 sent.length c7) sent.length (rs.flatMap Raw.cs) rfl HO7a.out _ (some ⟨w5.heap.size, 0, none⟩) 1 1 (Raw.cs ⟨mm.f, mm.t, mA, mm.bs.length, mc⟩) rfl HR1.out (raw_one1 _) ?c1 ?c2 ?c3 ?_)
                    case c1 => simp only [maxLen]; omega
                    case c2 => omega
                    case c3 => simp at hsw ⊢; omega
                    intro v9 w9 hown9 hgr9 hat9
                    obtain ⟨A9, c9, rfl, -, -⟩ := own_form hown9
                    have ht9 := T2.out.put HO7.out HMS.out HXM.out hown9 hgr9 (hat9.imp id fun h => by simpa using h)
                    have hl9 : (sent ++ [mm]).length = sent.length + 1 := by simp
                    rw [← hl9] at ht9 ⊢
                    have hsl : (sent ++ [mm]).length ≤ j + 1 := by rw [hl9]; omega
                    have HC2 := Lib.hid (show Cnt (bag ++ [mm]) (sent ++ [mm]) came from HCN.out.put mm)
                    clear T2
                    have T2 := Lib.hid ht9
                    generalize sent ++ [mm] = sent2 at T2 HC2 hsl ⊢
                    clear ht9 hl9 z0 z1 z2
                    clear hown9 hgr9 hat9 HO7 HMS HO7a HR1 HXM hi hz0 hz1 hz2
                    have T2L := Lib.hid (c_len T2.out.mine.net)
                    have hb2 : (bag ++ [mm]).length ≤ 64 := T2.out.mine.net.len
                    have dn : decide (64 < (bag ++ [mm]).length) = false := decide_eq_false (by omega)
                    have di : decide ((64 : Int) < (((bag ++ [mm]).length : Nat) : Int)) = false := decide_eq_false (by omega)
                    generalize (bag ++ [mm]).length = bn at T2L dn di hb2 ⊢
                    go_wp2_with fail
                    refine T2L.out.mono ?_
                    rintro e w6 ⟨rfl, hw⟩
                    subst hw
                    go_wp2_with fail
                    go_roundw
                    case rel => exact ⟨j + 1, _, _, _, _, _, _, _, _, _, _, by omega, by go_num, rfl, rfl, by first | omega | (simp; omega), by first | omega | (simp; omega), T2.out, HC2.out⟩
                    case measure => simp [intOf]; omega
                  · rw [hse] at C
                    simp only [] at C
                    have CC := Lib.hid C
                    clear htb x0 x1 x2 x3 x4 T1 hom hb4 k4 ht4 hom4 ht5 hxm5 C hse CA hbA
                    have f0 : (fe == 0) = false := by simpa using hfe
                    go_wp2_with fail
                    rw [← hW4]
                    clear hW4
                    refine CC.out.mono ?_
                    rintro e w5 ⟨rfl, hn⟩
                    obtain ⟨R3, A3, htb, hu⟩ := T4.out.net hn
                    have T2 := Lib.hid htb
                    have HC2 := HCN
                    clear htb hn hu CC T4 HXM4 K4 z3 zl
                    have T2L := Lib.hid (c_len T2.out.mine.net)
                    have hb2 : bag.length ≤ 64 := T2.out.mine.net.len
                    have dn : decide (64 < bag.length) = false := decide_eq_false (by omega)
                    have di : decide ((64 : Int) < (bag.length : Int)) = false := decide_eq_false (by omega)
                    have f1 : (fe == 0) = false := by simpa using hfe
                    have f2 : (fe != 0) = true := by simpa using hfe
                    go_wp2_with fail
                    refine T2L.out.mono ?_
                    rintro e w6 ⟨rfl, hw⟩
                    subst hw
                    go_wp2_with fail
                    refine T2L.out.mono ?_
                    rintro e w6 ⟨rfl, hw⟩
                    subst hw
                    go_wp2_with fail
                    go_roundw
                    case rel => exact ⟨j + 1, _, _, _, _, _, _, _, _, _, _, by omega, by go_num, rfl, rfl, by omega, by omega, T2.out, HC2.out⟩
                    case measure => simp [intOf]; omega
                · by_cases d4 : x.d = 4
                  · have e0 : (x.d == 0) = false := by simpa using d0
                    have e1 : (x.d == 1) = false := by simpa using d1
                    have e2 : (x.d == 2) = false := by simpa using d2
                    have e3 : (x.d == 3) = false := by simpa using d3
                    have e4 : (x.d == 4) = true := by simpa using d4
                    have C := c_cut T1.out.mine.net x.a x.b
                    generalize (if twoB N x.a x.b = true then (0 : Int) else 1) = ce at C
                    have CC := Lib.hid C
                    clear d4 C
                    go_wp2_with fail
                    refine CC.out.mono ?_
                    rintro e w3 ⟨rfl, hn⟩
                    obtain ⟨R3, A3, htb, hu⟩ := T1.out.net hn
                    have T2 := Lib.hid htb
                    have HC2 := HCN
                    clear htb hn hu x0 x1 x2 x3 x4 CC T1
                    have T2L := Lib.hid (c_len T2.out.mine.net)
                    have hb2 : (bag).length ≤ 64 := T2.out.mine.net.len
                    have dn : decide (64 < (bag).length) = false := decide_eq_false (by omega)
                    have di : decide ((64 : Int) < (((bag).length : Nat) : Int)) = false := decide_eq_false (by omega)
                    generalize (bag).length = bn at T2L dn di hb2 ⊢
                    go_wp2_with fail
                    refine T2L.out.mono ?_
                    rintro e w6 ⟨rfl, hw⟩
                    subst hw
                    go_wp2_with fail
                    go_roundw
                    case rel => exact ⟨j + 1, _, _, _, _, _, _, _, _, _, _, by omega, by go_num, rfl, rfl, by first | omega | (simp; omega), by first | omega | (simp; omega), T2.out, HC2.out⟩
                    case measure => simp [intOf]; omega
                  · by_cases d5 : x.d = 5
                    · have e0 : (x.d == 0) = false := by simpa using d0
                      have e1 : (x.d == 1) = false := by simpa using d1
                      have e2 : (x.d == 2) = false := by simpa using d2
                      have e3 : (x.d == 3) = false := by simpa using d3
                      have e4 : (x.d == 4) = false := by simpa using d4
                      have e5 : (x.d == 5) = true := by simpa using d5
                      have C := c_heal T1.out.mine.net x.a x.b
                      generalize (if twoB N x.a x.b = true then (0 : Int) else 1) = ce at C
                      have CC := Lib.hid C
                      clear d5 C
                      go_wp2_with fail
                      refine CC.out.mono ?_
                      rintro e w3 ⟨rfl, hn⟩
                      obtain ⟨R3, A3, htb, hu⟩ := T1.out.net hn
                      have T2 := Lib.hid htb
                      have HC2 := HCN
                      clear htb hn hu x0 x1 x2 x3 x4 CC T1
                      have T2L := Lib.hid (c_len T2.out.mine.net)
                      have hb2 : (bag).length ≤ 64 := T2.out.mine.net.len
                      have dn : decide (64 < (bag).length) = false := decide_eq_false (by omega)
                      have di : decide ((64 : Int) < (((bag).length : Nat) : Int)) = false := decide_eq_false (by omega)
                      generalize (bag).length = bn at T2L dn di hb2 ⊢
                      go_wp2_with fail
                      refine T2L.out.mono ?_
                      rintro e w6 ⟨rfl, hw⟩
                      subst hw
                      go_wp2_with fail
                      go_roundw
                      case rel => exact ⟨j + 1, _, _, _, _, _, _, _, _, _, _, by omega, by go_num, rfl, rfl, by first | omega | (simp; omega), by first | omega | (simp; omega), T2.out, HC2.out⟩
                      case measure => simp [intOf]; omega
                    · have e0 : (x.d == 0) = false := by simpa using d0
                      have e1 : (x.d == 1) = false := by simpa using d1
                      have e2 : (x.d == 2) = false := by simpa using d2
                      have e3 : (x.d == 3) = false := by simpa using d3
                      have e4 : (x.d == 4) = false := by simpa using d4
                      have e5 : (x.d == 5) = false := by simpa using d5
                      clear d0 d1 d2 d3 d4 d5
                      have T2 := T1
                      have HC2 := HCN
                      clear x1 x2 x3 x4
                      have T2L := Lib.hid (c_len T2.out.mine.net)
                      have hb2 : (bag).length ≤ 64 := T2.out.mine.net.len
                      have dn : decide (64 < (bag).length) = false := decide_eq_false (by omega)
                      have di : decide ((64 : Int) < (((bag).length : Nat) : Int)) = false := decide_eq_false (by omega)
                      generalize (bag).length = bn at T2L dn di hb2 ⊢
                      go_wp2_with fail
                      refine T2L.out.mono ?_
                      rintro e w6 ⟨rfl, hw⟩
                      subst hw
                      go_wp2_with fail
                      go_roundw
                      case rel => exact ⟨j + 1, _, _, _, _, _, _, _, _, _, _, by omega, by go_num, rfl, rfl, by first | omega | (simp; omega), by first | omega | (simp; omega), T2.out, HC2.out⟩
                      case measure => simp [intOf]; omega
        · have hjl : j = l.length := by omega
          have HB := Lib.hid T0.out.mine.below
          clear T0
          go_wp2_with fail
          refine (awake_any wr).mono ?_
          rintro e w3 ⟨rfl, hb⟩
          have HB := Lib.hid (HB.out.trans (hb.mono HB.out.size))
          clear hb
          go_wp2_with fail
          go_ret
          exact ⟨rfl, HB.out⟩
  · have C := Lib.hid (new_no N w hN)
    clear hN
    go_enter Try.func4, Try.ntmps4
    go_wp2_with fail
    refine C.out.mono ?_
    rintro e w1 ⟨rfl, hw⟩
    subst hw
    clear C
    go_wp2_with fail
    refine (awake_any w).mono ?_
    rintro e w3 ⟨rfl, hb⟩
    have HB := Lib.hid hb
    clear hb
    go_wp2_with fail
    go_ret
    exact ⟨rfl, HB.out⟩
end Go.Proofs.Ytfmflbcmigiciaa
