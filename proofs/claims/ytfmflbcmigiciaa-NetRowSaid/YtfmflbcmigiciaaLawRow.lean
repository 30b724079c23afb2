/- Chapter 05: who always delivers the message that is there longest delivers what was sent, in order. -/
import Derived.Test.YtfmflbcmigiciaaOpen
namespace Go.Proofs.Ytfmflbcmigiciaa
open Go.RowKit

theorem and15 (x : Int) : 0 ≤ bits .and .i64 x 15 ∧ bits .and .i64 x 15 ≤ 15 := by
  unfold bits
  simp only []
  have hn : (BitVec.ofInt IntKind.i64.bits x &&& BitVec.ofInt IntKind.i64.bits 15).toNat ≤ 15 := by
    rw [BitVec.toNat_and]
    exact Nat.le_trans Nat.and_le_right (by decide)
  generalize (BitVec.ofInt IntKind.i64.bits x &&& BitVec.ofInt IntKind.i64.bits 15).toNat = n at hn ⊢
  rw [IntKind.wrap_i64]
  omega
theorem info9 : (Try.prog.info? 9).map (fun i => (i.zero, i.size, i.bytes)) = some (some (.string ByteArray.empty), 1, 16) := by kernel_rfl
theorem str_one (l : List ByteArray) : ∀ u ∈ l.map Value.string, u.oneCell' = true := by
  intro u hu
  obtain ⟨b, _, rfl⟩ := List.mem_map.1 hu
  rfl
/-- What is on its way is what was sent and not yet delivered. -/
structure RowP (bag : List Msg) (ss : List ByteArray) (k : Nat) : Prop where
  all : ∀ m ∈ bag, m.f = 1 ∧ m.t = 2
  eq : bag.map (fun m => strOfNums m.bs) = ss.drop k
  le : k ≤ ss.length
theorem RowP.len {bag : List Msg} {ss : List ByteArray} {k : Nat} (h : RowP bag ss k) : bag.length = ss.length - k := by
  have := congrArg List.length h.eq
  simpa using this
theorem RowP.put {bag : List Msg} {ss : List ByteArray} {k : Nat} (h : RowP bag ss k) (bs : List Int) : RowP (bag ++ [⟨1, 2, bs⟩]) (ss ++ [strOfNums bs]) k := by
  refine ⟨fun m hm => ?_, ?_, ?_⟩
  · rcases List.mem_append.1 hm with hm | hm
    · exact h.all m hm
    · simp at hm; subst hm; exact ⟨rfl, rfl⟩
  · rw [List.map_append, h.eq, List.drop_append_of_le_length h.le]; rfl
  · have := h.le; simp; omega
theorem RowP.take {m : Msg} {bag : List Msg} {ss : List ByteArray} {k : Nat} (h : RowP (m :: bag) ss k) : RowP bag ss (k + 1) ∧ m.f = 1 ∧ m.t = 2 ∧ k < ss.length ∧ ss[k]? = some (strOfNums m.bs) := by
  have h1 := h.all m (by simp)
  have h2 := h.eq
  have h3 := h.len
  simp only [List.map_cons, List.length_cons] at h2 h3
  have hk : k < ss.length := by omega
  rw [List.drop_eq_getElem_cons hk] at h2
  simp only [List.cons.injEq] at h2
  exact ⟨⟨fun x hx => h.all x (by simp [hx]), h2.2, by omega⟩, h1.1, h1.2, hk, by rw [List.getElem?_eq_getElem hk, h2.1]⟩
theorem open2 : openB 2 cutA 1 2 = true := by decide
theorem RowP.send {bag : List Msg} {bs : List Int} (hb : bs.length ≤ 16384) : sendP 2 cutA bag 1 2 bs = if 64 ≤ bag.length then (3, bag) else (0, bag ++ [⟨1, 2, bs⟩]) := by
  unfold sendP
  rw [show twoB 2 1 2 = true by decide, open2, if_neg (by decide), if_neg (by omega), if_neg (by decide)]
theorem RowP.deliver {m : Msg} {bag : List Msg} (h1 : m.f = 1) (h2 : m.t = 2) : delP 2 cutA (m :: bag) 0 = (m, 0, bag) := by
  unfold delP atP
  simp [h1, h2, open2]

structure RowAt (w0 w : World) (R : Nat → Prop) (G : Nat) (A : Option Addr) (sv : Value) (bag : List Msg) (ss : List ByteArray) (k : Nat) : Prop where
  mine : Mine w0 w R G A 2 cutA bag
  p : RowP bag ss k
  own : w.ownsRow w0.heap.size 9 1 sv ss.length (ss.map Value.string)
  off : ∀ x, sv.ownBlock = some x → ¬ R x
theorem RowAt.next {w0 w w' : World} {R : Nat → Prop} {G : Nat} {A : Option Addr} {sv : Value} {bag bag' : List Msg} {ss : List ByteArray} {k : Nat} (h : RowAt w0 w R G A sv bag ss k) (hn : Net1 w w' R G A 2 cutA bag') : ∃ R' A', Mine w0 w' R' G A' 2 cutA bag' ∧ w'.ownsRow w0.heap.size 9 1 sv ss.length (ss.map Value.string) ∧ ∀ x, sv.ownBlock = some x → ¬ R' x := by
  obtain ⟨R', A', hm, hu, _⟩ := h.mine.next hn
  refine ⟨R', A', hm, own_far h.own hu.far fun k e => (h.mine.net.not_wr h.own (by decide) (by decide) e).2, fun x ex hR => ?_⟩
  rcases hu.old x hR with h1 | h1
  · exact h.off x ex h1
  · have := (h.own.lt x ex).2; omega
theorem RowAt.below {w0 w w' : World} {R : Nat → Prop} {G : Nat} {A : Option Addr} {sv : Value} {bag : List Msg} {ss : List ByteArray} {k : Nat} (h : RowAt w0 w R G A sv bag ss k) (hb : Below w.heap.size w w') : RowAt w0 w' R G A sv bag ss k :=
  ⟨(h.mine.under hb).1, h.p, own_below0 h.own hb, h.off⟩

set_option maxRecDepth 100000 in
set_option maxHeartbeats 4000000 in
theorem lawRow_any (l : List Row) (every : Int) (A : Option Addr) (c : Nat) (w : World) (h : RR w w.heap.size A l) (hc : l.length ≤ maxLen) (hok : ∀ x ∈ l, x.Ok w) :
    Calls Try.prog 3 #[.slice A l.length c, .int .i64 every] w fun e w' => e = .returned (.bool true) ∧ Below w.heap.size w w' := by
  have H := Lib.hid h
  have HOK := Lib.hid hok
  unfold maxLen at hc
  clear h hok
  by_cases h300 : 300 < l.length
  · have d0 : decide ((300 : Int) < l.length) = true := decide_eq_true (by omega)
    go_enter Try.func3, Try.ntmps3
    go_wp2_with fail
    refine (awake_any w).mono ?_
    rintro e v ⟨rfl, hb⟩
    have HB := Lib.hid hb
    clear hb
    go_wp2_with fail
    go_ret
    exact ⟨rfl, HB.out⟩
  · have d0 : decide ((300 : Int) < l.length) = false := decide_eq_false (by omega)
    go_enter Try.func3, Try.ntmps3
    go_wp2_with fail
    clear d0
    go_loopw [5] (fun v wr => ∃ k : Nat, k ≤ l.length ∧ v = .int .i64 k ∧ w = wr ∧ ∀ j x, j < k → l[j]? = some x → x.bs.length ≤ 16384) (fun v _ => l.length - (intOf v).toNat)
    case atStart => exact ⟨0, Nat.zero_le _, rfl, rfl, fun j x hj => by omega⟩
    case round =>
      obtain ⟨k, hk, rfl, rfl, hall⟩ := hrel
      by_cases hlt : k < l.length
      · have d1 : decide ((k : Int) < l.length) = true := decide_eq_true (by omega)
        obtain ⟨b, o, hA, hBb, hcell⟩ := Reads.elem (f := Row.cs) (fun _ => rfl) H.out hlt (by decide)
        have y0 := hcell 0 _ (by decide) rfl
        rw [Nat.add_zero, Nat.mul_one] at y0
        subst hA
        have hx := HOK.out _ (List.getElem_mem hlt)
        have hx1 := hx.le
        have hx2 := hx.cap
        unfold maxLen at hx2
        have HALL := Lib.hid hall
        obtain ⟨xr, hxr⟩ : ∃ xr, xr = l[k] := ⟨_, rfl⟩
        rw [← hxr] at y0 hx1 hx2
        have HX := Lib.hid hxr
        clear hcell hx hall hxr
        by_cases hbig : 16384 < xr.bs.length
        · have d2 : decide ((16384 : Int) < xr.bs.length) = true := decide_eq_true (by omega)
          go_wp2_with fail
          refine (awake_any w).mono ?_
          rintro e v ⟨rfl, hb⟩
          have HB := Lib.hid hb
          clear hb
          go_wp2_with fail
          go_ret
          exact ⟨rfl, HB.out⟩
        · have d2 : decide ((16384 : Int) < xr.bs.length) = false := decide_eq_false (by omega)
          have hall2 : ∀ j x, j < k + 1 → l[j]? = some x → x.bs.length ≤ 16384 := fun j x hj hx => by
            rcases Nat.lt_or_ge j k with hh | hh
            · exact HALL.out j x hh hx
            · rw [show j = k by omega, List.getElem?_eq_getElem hlt, ← HX.out] at hx
              cases hx
              omega
          have HALL2 := Lib.hid hall2
          clear hall2
          go_wp2_with fail
          go_roundw
          case rel => exact ⟨k + 1, by omega, by go_num, trivial, HALL2.out⟩
          case measure => simp [intOf]; omega
      · have d1 : decide ((k : Int) < l.length) = false := decide_eq_false (by omega)
        have hkl : k = l.length := by omega
        have HALL := Lib.hid (show ∀ x ∈ l, x.bs.length ≤ 16384 from fun x hx => by
          obtain ⟨i, hi, rfl⟩ := List.mem_iff_getElem.1 hx
          exact hall i _ (by omega) (List.getElem?_eq_getElem hi))
        clear hall hkl
        go_wp2_with fail
        refine (c_new 2 w (fun _ => False) (fun _ h => h.elim) (by decide) (by decide)).mono ?_
        rintro e w1 ⟨rfl, hM, hb1, -⟩
        unfold gp
        have M1 : Hid (Mine w w1 (fun _ => False) w.heap.size none 2 cutA []) := Lib.hid hM
        clear hM hb1 d1
        go_wp2_with fail
        have hev := and15 every
        have hev2 : 1 ≤ wrap64 (1 + bits .and .i64 every 15) ∧ wrap64 (1 + bits .and .i64 every 15) ≤ 16 := by unfold wrap64; omega
        generalize wrap64 (1 + bits .and .i64 every 15) = ev at hev2 ⊢
        obtain ⟨hev3, hev4⟩ := hev2
        clear hev
        go_loopw [8, 9, 10] (fun sv kv iv wr => ∃ (j k : Nat) (R : Nat → Prop) (Ar : Option Addr) (bag : List Msg) (ss : List ByteArray), j ≤ l.length ∧ iv = .int .i64 j ∧ kv = .int .i64 k ∧ ss.length ≤ j ∧ RowAt w wr R w.heap.size Ar sv bag ss k) (fun _ _ iv _ => l.length - (intOf iv).toNat)
        case atStart => exact ⟨0, 0, _, _, [], [], Nat.zero_le _, rfl, rfl, Nat.le_refl _, M1.out, ⟨by simp, rfl, Nat.le_refl _⟩, ⟨rfl, .inl ⟨rfl, rfl⟩⟩, fun x ex => (by cases ex)⟩
        case round =>
          obtain ⟨j, k, R, Ar, bag, ss, hj, rfl, rfl, hsj, hra⟩ := hrel
          have HRA := Lib.hid hra
          clear M1 hra
          by_cases hlt : j < l.length
          · have d1 : decide ((j : Int) < l.length) = true := decide_eq_true (by omega)
            have hbw := HRA.out.mine.below
            obtain ⟨b, o, hA, hBb, hcell⟩ := Reads.elem (f := Row.cs) (fun _ => rfl) (H.out.below hbw) hlt (by decide)
            have y0 := hcell 0 _ (by decide) rfl
            rw [Nat.add_zero, Nat.mul_one] at y0
            subst hA
            have hx := HOK.out _ (List.getElem_mem hlt)
            have hx1 := HALL.out _ (List.getElem_mem hlt)
            have hxr := (hx.rd.below hbw).more hbw.size
            obtain ⟨xr, hxx⟩ : ∃ xr, xr = l[j] := ⟨_, rfl⟩
            rw [← hxx] at y0 hx1 hxr
            have hyb : b < wr.heap.size := by have := hbw.size; omega
            have C := c_send HRA.out.mine.net 1 2 xr.bs xr.A xr.c hxr
            rw [RowP.send hx1] at C
            have CC := Lib.hid C
            have HXB := Lib.hid (show BR w w.heap.size xr.A xr.bs by rw [hxx]; exact hx.rd)
            clear C hcell hx hx1 hxx hbw hxr
            go_wp2_with fail
            refine CC.out.mono ?_
            obtain ⟨A8, c8, h8, -, -⟩ := own_form HRA.out.own
            subst h8
            by_cases hfull : 64 ≤ bag.length
            · simp only [if_pos hfull]
              rintro e w2 ⟨rfl, hn⟩
              obtain ⟨R2, A2, hm2, ho2, hnr2⟩ := HRA.out.next hn
              have HR2 : Hid (RowAt w w2 R2 w.heap.size A2 (.slice A8 ss.length c8) bag ss k) := Lib.hid ⟨hm2, HRA.out.p, ho2, hnr2⟩
              have HNE : Hid (bag ≠ []) := Lib.hid (by rintro rfl; simp at hfull)
              have HSL : Hid (ss.length ≤ j + 1) := Lib.hid (by omega)
              have hbl : bag.length = 64 := by have := hm2.net.len; omega
              clear hn hm2 ho2 hnr2 HRA CC
              go_wp2_with fail
              refine (c_len HR2.out.mine.net).mono ?_
              rintro e w3 ⟨rfl, hw3⟩
              subst hw3
              rw [hbl]
              clear hbl
              cases hdv : ((j : Int) % ev == 0) with
              | false =>
                go_wp2_with fail
                go_roundw
                case rel => exact ⟨j + 1, k, R2, A2, _, _, by omega, by go_num, rfl, HSL.out, HR2.out⟩
                case measure => simp [intOf]; omega
              | true =>
                obtain ⟨m, rest, hbag⟩ : ∃ m rest, bag = m :: rest := by
                  cases hc : bag with
                  | nil => exact absurd hc HNE.out
                  | cons m rest => exact ⟨m, rest, rfl⟩
                rw [hbag] at HR2
                obtain ⟨hp3, hf3, ht3, hk3, hs3⟩ := HR2.out.p.take
                have C := c_deliver HR2.out.mine.net 0
                rw [RowP.deliver hf3 ht3] at C
                have CC := Lib.hid C
                have HP3 := Lib.hid hp3
                have HS3 := Lib.hid hs3
                clear C hp3 hs3 hbag HNE
                go_wp2_with fail
                refine CC.out.mono ?_
                rintro e w4 ⟨Am, cm, rfl, hom, hn⟩
                obtain ⟨R4, A4, hm4, ho4, hnr4⟩ := HR2.out.next hn
                have HR4 : Hid (RowAt w w4 R4 w.heap.size A4 _ rest _ (k + 1)) := Lib.hid ⟨hm4, HP3.out, ho4, hnr4⟩
                have HOM := Lib.hid hom
                unfold msgV
                rw [hf3, ht3]
                clear hn hm4 ho4 hnr4 hom CC HR2 HP3
                go_wp2_with fail
                obtain ⟨W5, hW5⟩ : ∃ W5, W5 = w4.alloc (.cells #[.int .i64 1, .int .i64 2, .slice Am m.bs.length cm] 33) := ⟨_, rfl⟩
                have hb5 : Below w4.heap.size w4 W5 := by rw [hW5]; exact (Below.refl _ _).alloc (Nat.le_refl _) _
                have k5 : Blk W5 w4.heap.size 33 #[.int .i64 1, .int .i64 2, .slice Am m.bs.length cm] := by rw [hW5]; exact Blk.new _ _ _
                rw [← hW5]
                have hr5 := HR4.out.below hb5
                have hom5 := HOM.out.below hb5
                obtain ⟨g8, hg8, hgb⟩ := own_addr hr5.own (by omega)
                have hgl := (hr5.own.lt g8 (by rw [hg8]; rfl)).2
                have hsc : W5.cell? ⟨g8, k, none⟩ = some (.string (strOfNums m.bs)) := by
                  have h1 := hr5.own
                  rw [hg8] at h1
                  rw [h1.cellAt _ (by omega), List.getElem?_map, HS3.out]; rfl
                have HR5 := Lib.hid hr5
                have HO5 := Lib.hid (Reads.of_own hom5.row)
                have K5 := Lib.hid k5
                have dk : decide (ss.length ≤ k) = false := decide_eq_false (by omega)
                subst hg8
                clear hW5 hb5 k5 hr5 hom5 HR4 HOM
                refine Seg.region [(18, true)] (by kernel_rfl) (by kernel_rfl) ?_
                intro ι _ f hf hx
                simp only [List.take_succ_cons, List.take_zero, List.drop_succ_cons, List.drop_zero]
                have hf := fun i => below_of_drew (hf i)
                obtain ⟨a0, a1, a2⟩ := blk_cells3 (fun i => K5.out.below (hf i) K5.out.lt)
                have hsf : ∀ i, (f i).cell? ⟨g8, k, none⟩ = some (.string (strOfNums m.bs)) := fun i => ((hf i).cell (p := ⟨g8, k, none⟩) hgl).trans hsc
                have hcf : ∀ i, (convert 24 9 (.slice Am m.bs.length cm)).run Try.prog (f i) = .ok (.string (strOfNums m.bs)) (f i) := fun i => conv_str (HO5.out.below (hf i)) cm
                have HRF := Lib.hid (fun i => HR5.out.below (hf i))
                clear hf hsc
                repeat (go_big_quiet_step (fail))
                refine wpQuiet_nil ?_
                intro i
                have hri := Lib.hid (HRF.out i)
                have hsl := HSL.out
                simp only [Seg.Walk]
                go_wp2_with fail
                go_roundw
                case rel => exact ⟨j + 1, k + 1, _, _, _, _, by omega, by go_num, by go_num, HSL.out, hri.out⟩
                case measure => simp [intOf]; omega
            · simp only [if_neg hfull]
              rintro e w2 ⟨rfl, hn⟩
              obtain ⟨R2, A2, hm2, ho2, hnr2⟩ := HRA.out.next hn
              have hp2 := HRA.out.p.put xr.bs
              have hbw2 := hm2.below
              have y2 := (hbw2.cell (p := ⟨b, o + j, none⟩) hBb).trans ((HRA.out.mine.below.cell (p := ⟨b, o + j, none⟩) hBb).symm.trans y0)
              have hb2 : b < w2.heap.size := by have := hbw2.size; omega
              have hxr2 : BR w2 w.heap.size xr.A xr.bs := HXB.out.below hbw2
              have cv := conv_str hxr2 xr.c
              have HM2 := Lib.hid hm2
              have HO2 := Lib.hid ho2
              have HP2 := Lib.hid hp2
              obtain ⟨i0, hi, hz0, hz1, hz2⟩ := info_parts info9
              have hR1 : Reads (w2.alloc (.cells #[.string (strOfNums xr.bs)] 9)) (w2.alloc (.cells #[.string (strOfNums xr.bs)] 9)).heap.size 1 (some ⟨w2.heap.size, 0, none⟩) 1 [.string (strOfNums xr.bs)] := Reads.of_blk (Blk.new w2 9 #[.string (strOfNums xr.bs)]) rfl rfl
              have HR1 := Lib.hid hR1
              have hwa := (Below.refl w2.heap.size w2).alloc (Nat.le_refl _) (.cells #[.string (strOfNums xr.bs)] 9)
              have HO2a := Lib.hid (own_below0 ho2 hwa)
              have HMa := Lib.hid (hm2.under hwa).1
              have hbs2 := hbw2.size
              have HNR := Lib.hid hnr2
              clear hn hm2 ho2 hnr2 hp2 hbw2 hxr2 HRA CC y0 hR1 hwa
              go_wp2_with (at_builtin; refine wpList_append_any _ rfl (.tmp 54) (.tmp 60) 29 rfl w.heap.size 9 i0 _ 1 16 Try.underlying29 hi hz0 hz1 hz2 rfl (by decide) (.slice A8 ss.length c8) ss.length (ss.map Value.string) rfl HO2a.out _ (some ⟨w2.heap.size, 0, none⟩) 1 1 [.string (strOfNums xr.bs)] rfl HR1.out (str_one [strOfNums xr.bs]) ?c1 ?c2 ?c3 ?_)
              case c1 => simp only [maxLen]; omega
              case c2 => omega
              case c3 => simp; omega
              intro v9 w9 hown9 hgr9 hat9
              obtain ⟨A9, c9, rfl, -, -⟩ := own_form hown9
              have hfar : Far (fun x => (Value.slice A8 ss.length c8).ownBlock = some x) (w2.alloc (.cells #[.string (strOfNums xr.bs)] 9)) w9 := Far.grown hgr9 fun x ex => ex
              have hu9 : Upd (fun x => (Value.slice A8 ss.length c8).ownBlock = some x) R2 (fun x => R2 x) (w2.alloc (.cells #[.string (strOfNums xr.bs)] 9)) w9 := ⟨hfar, fun x ex hR => HNR.out x ex hR, fun _ h => h, fun _ h => .inl h, fun x hx => Nat.lt_of_lt_of_le (HMa.out.net.lt x hx) hfar.size⟩
              have hm9 : Mine w w9 R2 w.heap.size A2 2 cutA (bag ++ [⟨1, 2, xr.bs⟩]) := ⟨HMa.out.net.upd hu9 fun x hx ex => (HMa.out.net.not_wr HO2a.out (by decide) (by decide) ex).2 hx, HMa.out.below.trans (hfar.below (fun x ex => (HO2a.out.lt x ex).1) HMa.out.below.size), HMa.out.low⟩
              have hl9 : (ss ++ [strOfNums xr.bs]).length = ss.length + 1 := by simp
              have HR2 : Hid (RowAt w w9 R2 w.heap.size A2 (.slice A9 (ss ++ [strOfNums xr.bs]).length c9) (bag ++ [⟨1, 2, xr.bs⟩]) (ss ++ [strOfNums xr.bs]) k) := Lib.hid ⟨hm9, HP2.out, by rw [hl9, List.map_append]; exact hown9, fun x ex hR => by
                rw [hl9] at ex
                rcases hat9 with hat9 | hat9
                · exact HNR.out x (hat9.symm.trans ex) hR
                · have ex := hat9.symm.trans ex
                  cases ex
                  have := HMa.out.net.lt _ hR
                  simp at this⟩
              have HNE : Hid (bag ++ [(⟨1, 2, xr.bs⟩ : Msg)] ≠ []) := Lib.hid (by simp)
              have HSL : Hid ((ss ++ [strOfNums xr.bs]).length ≤ j + 1) := Lib.hid (by rw [hl9]; omega)
              rw [← hl9]
              generalize hss2 : ss ++ [strOfNums xr.bs] = ss2 at HR2 HSL ⊢
              generalize hbag2 : bag ++ [(⟨1, 2, xr.bs⟩ : Msg)] = bag2 at HR2 HNE
              clear hown9 hgr9 hat9 hfar hu9 hm9 hl9 HM2 HO2 HP2 HO2a HMa HR1 cv HNR hss2 hbag2
              cases hdv : ((j : Int) % ev == 0) with
              | false =>
                go_wp2_with fail
                go_roundw
                case rel => exact ⟨j + 1, k, R2, A2, _, _, by omega, by go_num, rfl, HSL.out, HR2.out⟩
                case measure => simp [intOf]; omega
              | true =>
                obtain ⟨m, rest, hbag⟩ : ∃ m rest, bag2 = m :: rest := by
                  cases hc : bag2 with
                  | nil => exact absurd hc HNE.out
                  | cons m rest => exact ⟨m, rest, rfl⟩
                rw [hbag] at HR2
                obtain ⟨hp3, hf3, ht3, hk3, hs3⟩ := HR2.out.p.take
                have C := c_deliver HR2.out.mine.net 0
                rw [RowP.deliver hf3 ht3] at C
                have CC := Lib.hid C
                have HP3 := Lib.hid hp3
                have HS3 := Lib.hid hs3
                clear C hp3 hs3 hbag HNE
                go_wp2_with fail
                refine CC.out.mono ?_
                rintro e w4 ⟨Am, cm, rfl, hom, hn⟩
                obtain ⟨R4, A4, hm4, ho4, hnr4⟩ := HR2.out.next hn
                have HR4 : Hid (RowAt w w4 R4 w.heap.size A4 _ rest _ (k + 1)) := Lib.hid ⟨hm4, HP3.out, ho4, hnr4⟩
                have HOM := Lib.hid hom
                unfold msgV
                rw [hf3, ht3]
                clear hn hm4 ho4 hnr4 hom CC HR2 HP3
                go_wp2_with fail
                obtain ⟨W5, hW5⟩ : ∃ W5, W5 = w4.alloc (.cells #[.int .i64 1, .int .i64 2, .slice Am m.bs.length cm] 33) := ⟨_, rfl⟩
                have hb5 : Below w4.heap.size w4 W5 := by rw [hW5]; exact (Below.refl _ _).alloc (Nat.le_refl _) _
                have k5 : Blk W5 w4.heap.size 33 #[.int .i64 1, .int .i64 2, .slice Am m.bs.length cm] := by rw [hW5]; exact Blk.new _ _ _
                rw [← hW5]
                have hr5 := HR4.out.below hb5
                have hom5 := HOM.out.below hb5
                obtain ⟨g8, hg8, hgb⟩ := own_addr hr5.own (by omega)
                have hgl := (hr5.own.lt g8 (by rw [hg8]; rfl)).2
                have hsc : W5.cell? ⟨g8, k, none⟩ = some (.string (strOfNums m.bs)) := by
                  have h1 := hr5.own
                  rw [hg8] at h1
                  rw [h1.cellAt _ (by omega), List.getElem?_map, HS3.out]; rfl
                have HR5 := Lib.hid hr5
                have HO5 := Lib.hid (Reads.of_own hom5.row)
                have K5 := Lib.hid k5
                have dk : decide (ss2.length ≤ k) = false := decide_eq_false (by omega)
                subst hg8
                clear hW5 hb5 k5 hr5 hom5 HR4 HOM
                refine Seg.region [(18, true)] (by kernel_rfl) (by kernel_rfl) ?_
                intro ι _ f hf hx
                simp only [List.take_succ_cons, List.take_zero, List.drop_succ_cons, List.drop_zero]
                have hf := fun i => below_of_drew (hf i)
                obtain ⟨a0, a1, a2⟩ := blk_cells3 (fun i => K5.out.below (hf i) K5.out.lt)
                have hsf : ∀ i, (f i).cell? ⟨g8, k, none⟩ = some (.string (strOfNums m.bs)) := fun i => ((hf i).cell (p := ⟨g8, k, none⟩) hgl).trans hsc
                have hcf : ∀ i, (convert 24 9 (.slice Am m.bs.length cm)).run Try.prog (f i) = .ok (.string (strOfNums m.bs)) (f i) := fun i => conv_str (HO5.out.below (hf i)) cm
                have HRF := Lib.hid (fun i => HR5.out.below (hf i))
                clear hf hsc
                repeat (go_big_quiet_step (fail))
                refine wpQuiet_nil ?_
                intro i
                have hri := Lib.hid (HRF.out i)
                have hsl := HSL.out
                simp only [Seg.Walk]
                go_wp2_with fail
                go_roundw
                case rel => exact ⟨j + 1, k + 1, _, _, _, _, by omega, by go_num, by go_num, HSL.out, hri.out⟩
                case measure => simp [intOf]; omega
          · have d1 : decide ((j : Int) < l.length) = false := decide_eq_false (by omega)
            have hss : ss.length ≤ 300 := by omega
            obtain ⟨A8, c8, h8, -, -⟩ := own_form HRA.out.own
            subst h8
            clear hsj
            go_wp2_with fail
            clear d1
            go_loopw [9] (fun kv wr => ∃ (k : Nat) (R : Nat → Prop) (Ar : Option Addr) (bag : List Msg), kv = .int .i64 k ∧ RowAt w wr R w.heap.size Ar (.slice A8 ss.length c8) bag ss k) (fun kv _ => ss.length - (intOf kv).toNat)
            case atStart => exact ⟨k, R, Ar, bag, rfl, HRA.out⟩
            case round =>
              clear HRA
              obtain ⟨k, R2, A2, bag, rfl, hra⟩ := hrel
              have HR2 := Lib.hid hra
              have hbl := hra.p.len
              have hble := hra.p.le
              clear hra
              cases hbag : bag with
              | nil =>
                have hk0 : k = ss.length := by rw [hbag] at hbl; simp at hbl; omega
                go_wp2_with fail
                refine (c_len HR2.out.mine.net).mono ?_
                rintro e w3 ⟨rfl, hw3⟩
                subst hw3
                rw [hbag, hk0]
                simp only [List.length_nil]
                go_wp2_with fail
                refine (awake_any _).mono ?_
                rintro e w4 ⟨rfl, hb⟩
                have HB := Lib.hid (HR2.out.mine.below.trans (hb.mono HR2.out.mine.below.size))
                clear hb
                go_wp2_with fail
                go_ret
                exact ⟨rfl, HB.out⟩
              | cons m rest =>
                rw [hbag] at HR2
                obtain ⟨hp3, hf3, ht3, hk3, hs3⟩ := HR2.out.p.take
                have C := c_deliver HR2.out.mine.net 0
                rw [RowP.deliver hf3 ht3] at C
                have CC := Lib.hid C
                have HP3 := Lib.hid hp3
                have HS3 := Lib.hid hs3
                have dl : decide ((0 : Int) < (((m :: rest).length : Nat) : Int)) = true := decide_eq_true (by simp)
                clear C hp3 hs3 hbag hbl hble
                go_wp2_with fail
                refine (c_len HR2.out.mine.net).mono ?_
                rintro e w3 ⟨rfl, hw3⟩
                subst hw3
                go_wp2_with fail
                refine CC.out.mono ?_
                rintro e w4 ⟨Am, cm, rfl, hom, hn⟩
                obtain ⟨R4, A4, hm4, ho4, hnr4⟩ := HR2.out.next hn
                have HR4 : Hid (RowAt w w4 R4 w.heap.size A4 _ rest _ (k + 1)) := Lib.hid ⟨hm4, HP3.out, ho4, hnr4⟩
                have HOM := Lib.hid hom
                unfold msgV
                rw [hf3, ht3]
                clear hn hm4 ho4 hnr4 hom CC HR2 HP3 dl
                go_wp2_with fail
                obtain ⟨W5, hW5⟩ : ∃ W5, W5 = w4.alloc (.cells #[.int .i64 1, .int .i64 2, .slice Am m.bs.length cm] 33) := ⟨_, rfl⟩
                have hb5 : Below w4.heap.size w4 W5 := by rw [hW5]; exact (Below.refl _ _).alloc (Nat.le_refl _) _
                have k5 : Blk W5 w4.heap.size 33 #[.int .i64 1, .int .i64 2, .slice Am m.bs.length cm] := by rw [hW5]; exact Blk.new _ _ _
                rw [← hW5]
                have hr5 := HR4.out.below hb5
                have hom5 := HOM.out.below hb5
                obtain ⟨g8, hg8, hgb⟩ := own_addr hr5.own (by omega)
                have hgl := (hr5.own.lt g8 (by rw [hg8]; rfl)).2
                have hsc : W5.cell? ⟨g8, k, none⟩ = some (.string (strOfNums m.bs)) := by
                  have h1 := hr5.own
                  rw [hg8] at h1
                  rw [h1.cellAt _ (by omega), List.getElem?_map, HS3.out]; rfl
                have HR5 := Lib.hid hr5
                have HO5 := Lib.hid (Reads.of_own hom5.row)
                have K5 := Lib.hid k5
                have dk : decide (ss.length ≤ k) = false := decide_eq_false (by omega)
                subst hg8
                clear hW5 hb5 k5 hr5 hom5 HR4 HOM
                refine Seg.region [(28, true)] (by kernel_rfl) (by kernel_rfl) ?_
                intro ι _ f hf hx
                simp only [List.take_succ_cons, List.take_zero, List.drop_succ_cons, List.drop_zero]
                have hf := fun i => below_of_drew (hf i)
                obtain ⟨a0, a1, a2⟩ := blk_cells3 (fun i => K5.out.below (hf i) K5.out.lt)
                have hsf : ∀ i, (f i).cell? ⟨g8, k, none⟩ = some (.string (strOfNums m.bs)) := fun i => ((hf i).cell (p := ⟨g8, k, none⟩) hgl).trans hsc
                have hcf : ∀ i, (convert 24 9 (.slice Am m.bs.length cm)).run Try.prog (f i) = .ok (.string (strOfNums m.bs)) (f i) := fun i => conv_str (HO5.out.below (hf i)) cm
                have HRF := Lib.hid (fun i => HR5.out.below (hf i))
                clear hf hsc
                repeat (go_big_quiet_step (fail))
                refine wpQuiet_nil ?_
                intro i
                have hri := Lib.hid (HRF.out i)
                simp only [Seg.Walk]
                go_wp2_with fail
                go_roundw
                case rel => exact ⟨k + 1, _, _, _, by go_num, hri.out⟩
                case measure => simp [intOf]; omega
end Go.Proofs.Ytfmflbcmigiciaa
