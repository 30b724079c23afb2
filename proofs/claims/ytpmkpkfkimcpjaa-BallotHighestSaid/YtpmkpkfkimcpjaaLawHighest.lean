/- BallotHighest: for every promises the law's call returns true and leaves what was there as it was. -/
import Derived.Test.YtpmkpkfkimcpjaaWalkG
import Derived.Test.YtpmkpkfkimcpjaaAwake
import Derived.Laws.OwnMore
namespace Go.Proofs.Ytpmkpkfkimcpjaa
open Go.RowKit

theorem own_below {B : Nat} {e : TypeId} {k : Nat} {v : Value} {n : Nat} {xs : List Value} {w w' : World} (h : w.ownsRow B e k v n xs) (hb : Below w.heap.size w w') : w'.ownsRow B e k v n xs := by
  obtain ⟨h1, h2⟩ := h
  refine ⟨h1, ?_⟩
  rcases h2 with h2 | ⟨g, cap, cur, a, b, c, d⟩
  · exact .inl h2
  · refine .inr ⟨g, cap, cur, a, b, ?_, d⟩
    have hg : g < w.heap.size := by
      rcases Nat.lt_or_ge g w.heap.size with hh | hh
      · exact hh
      · rw [Array.getElem?_eq_none hh] at c; cases c
    exact (hb.block g hg).trans c

theorem PR.below {w w' : World} {B : Nat} {x : Prm} (h : PR w B x) (hb : Below B w w') (B' : Nat) (hB : B ≤ B') : PR w' B' x := ⟨h.1, (h.2.below hb).more hB⟩

set_option maxHeartbeats 2000000 in
theorem lawHighest_any (l : List Prm) (A : Option Addr) (cap : Nat) (w : World) (h : Reads w w.heap.size 8 A l.length (l.flatMap Prm.cs)) (hp : ∀ x ∈ l, PR w w.heap.size x) (hln : l.length ≤ maxLen) (hlk : ∀ x ∈ l, x.n ≤ maxLen) :
    Calls Try.prog 9 #[.slice A l.length cap] w fun e w' => e = .returned (.bool true) ∧ Below w.heap.size w w' := by
  obtain ⟨i0, hi, hz0, hz1, hz2⟩ := info_parts info51
  unfold maxLen at hln hlk
  by_cases hl : l.length ≤ 100
  · go_enter Try.func9, Try.ntmps9
    go_wp2
    go_loop [3] (fun k => ∃ m : Nat, m ≤ l.length ∧ k = .int .i64 m ∧ ∀ x ∈ l.take m, x.n ≤ 10000) (fun k => l.length - (intOf k).toNat)
    case atStart => exact ⟨0, Nat.zero_le _, rfl, by simp⟩
    case round =>
      obtain ⟨m, hm, rfl, hall⟩ := hrel
      have HA := Lib.hid hall
      clear hall
      by_cases hlt : m < l.length
      · obtain ⟨b, o, rfl, hB, hc⟩ := h.elem prm_len hlt (by omega)
        obtain ⟨yf, yr, yn, yi, yar, yan, yai, yA, yk, yc, ybs, hy⟩ := mkP_ex l[m]
        have hyk := hlk l[m] (List.getElem_mem hlt)
        rw [hy] at hc hyk
        have y7 := hc 7 _ (by omega) rfl
        dsimp only [mkP] at y7 hyk
        have HY := Lib.hid hy
        clear hc h hy
        by_cases hk : yk ≤ 10000
        · go_wp2_with fail
          go_round
          case rel =>
            refine ⟨m + 1, by omega, by go_num, ?_⟩
            rw [take_snoc' l m hlt]
            intro x hx
            rcases List.mem_append.1 hx with hx | hx
            · exact HA.out x hx
            · rw [List.mem_singleton.1 hx, HY.out]; exact hk
          case measure => simp [intOf]; omega
        · go_wp2_with fail
          refine (awake_any _).mono ?_
          rintro e w1 ⟨rfl, hb1⟩
          go_wp2_with fail
          go_ret
          exact ⟨rfl, hb1⟩
      · have hml : l.take m = l := by rw [List.take_of_length_le]; omega
        have hall : ∀ x ∈ l, PR w w.heap.size x ∧ x.n ≤ 10000 := fun x hx => ⟨hp x hx, HA.out x (by rw [hml]; exact hx)⟩
        have HL := Lib.hid hall
        have H := Lib.hid h
        clear hml HA hp hlk h
        go_wp2_with (at_builtin; refine wpList_append_any _ rfl (.tmp 29) (.tmp 30) 48 rfl w.heap.size 51 i0 _ 8 80 Try.underlying48 hi hz0 hz1 hz2 rfl (by decide) (.slice (some ⟨w.heap.size, 0, none⟩) 0 0) 0 [] rfl (World.ownsRow_made w #[] 0 (Nat.le_refl _) (Nat.zero_le _) rfl) w.heap.size A l.length cap (l.flatMap Prm.cs) rfl (H.out.alloc (Nat.le_refl _) _) (prm_one l) ?c1 ?c2 ?c3 ?_)
        case c1 => simp only [maxLen]; omega
        case c2 => omega
        intro v1 w1 hown hg hat
        obtain ⟨hb, hlt1, A3, c3, rfl, _, _, HR3, _⟩ := lit_post hown hg
        have HR := Lib.hid HR3
        clear hown hg hat HR3
        go_wp2_with fail
        refine (high_any l A3 c3 w1 HR.out (fun x hx => ⟨(HL.out x hx).1.below hb _ hb.size, (HL.out x hx).2⟩) hl).mono ?_
        rintro e w2 ⟨A', c', rfl, hb2, ho2⟩
        have hbb := hb.trans (hb2.mono hb.size)
        obtain ⟨hpr, hpn⟩ := highP_pr HL.out
        have hlow : ∀ g, (Value.slice A' ((highP l).getD Prm.zero).n c').ownBlock = some g → g < w2.heap.size := fun g hg => (ho2.lt g hg).2
        have R := rhigh_any l A cap
        obtain ⟨s, hs⟩ : ∃ s, (highP l).isSome = s := ⟨_, rfl⟩
        obtain ⟨xf, xr, xn, xi, xar, xan, xai, xA, xk, xc, xbs, hx⟩ := mkP_ex ((highP l).getD Prm.zero)
        rw [hx] at hpr hlow ho2 R hpn ⊢
        have hpn : xk ≤ 10000 := hpn
        rw [hs] at R ⊢
        have HP := Lib.hid hpr
        have HO := Lib.hid (own_low ho2 hb.size)
        have HRR := Lib.hid R
        clear hx hs hpr ho2 R hb2 HR HL
        unfold mkP
        dsimp only [Prm.cs]
        go_wp2_with fail
        have hb3 := hbb.alloc hbb.size (Obj.cells #[Value.int .i64 xf, .int .u64 xr, .int .i64 xn, .int .u64 xi, .int .u64 xar, .int .i64 xan, .int .u64 xai, .slice A' xk c'] 51)
        have HK4 := Lib.hid (Blk.new w2 51 #[.int .i64 xf, .int .u64 xr, .int .i64 xn, .int .u64 xi, .int .u64 xar, .int .i64 xan, .int .u64 xai, .slice A' xk c'])
        have HO3 := Lib.hid (HO.out.alloc (Obj.cells #[Value.int .i64 xf, .int .u64 xr, .int .i64 xn, .int .u64 xi, .int .u64 xar, .int .i64 xan, .int .u64 xai, .slice A' xk c'] 51))
        refine (HRR.out _ _ (H.out.below hb3) hb3.size hl).mono ?_
        rintro e w3 ⟨rfl, hb4⟩
        have hz2' : w2.heap.size + 1 ≤ w3.heap.size := by have := hb4.size; simpa using this
        have hb5 := hb3.trans (hb4.mono hb3.size)
        have HK5 := Lib.hid (HK4.out.below hb4 (by simp))
        have HO4 := Lib.hid (own_below HO3.out hb4)
        clear hb3 hb4 HK4 HO3 HO HRR hbb hb
        unfold mkP
        dsimp only [Prm.cs]
        have k1 := HK5.out.alloc (Obj.cells #[Value.int .i64 xf, .int .u64 xr, .int .i64 xn, .int .u64 xi, .int .u64 xar, .int .i64 xan, .int .u64 xai, .slice xA xk xc] 51)
        have k2 := Blk.new w3 51 #[.int .i64 xf, .int .u64 xr, .int .i64 xn, .int .u64 xi, .int .u64 xar, .int .i64 xan, .int .u64 xai, .slice xA xk xc]
        have hb6 := hb5.alloc hb5.size (Obj.cells #[Value.int .i64 xf, .int .u64 xr, .int .i64 xn, .int .u64 xi, .int .u64 xar, .int .i64 xan, .int .u64 xai, .slice xA xk xc] 51)
        have HO5 := Lib.hid (HO4.out.alloc (Obj.cells #[Value.int .i64 xf, .int .u64 xr, .int .i64 xn, .int .u64 xi, .int .u64 xar, .int .i64 xan, .int .u64 xai, .slice xA xk xc] 51))
        obtain ⟨a0, a1, a2, a3, a4, a5, a6, a7⟩ := blk_cell8 k1
        obtain ⟨b0, b1, b2, b3, b4, b5, b6, b7⟩ := blk_cell8 k2
        have HK1 := Lib.hid k1
        have HK2 := Lib.hid k2
        have hss : (s != s) = false := by simp
        clear k1 k2 HK5 HO4 hb5
        go_wp2_with fail
        have P0 := HP.out
        have hxk : xbs.length = xk := P0.1
        have hr6 : Reads (w3.alloc (Obj.cells #[Value.int .i64 xf, .int .u64 xr, .int .i64 xn, .int .u64 xi, .int .u64 xar, .int .i64 xan, .int .u64 xai, .slice xA xk xc] 51)) w.heap.size 1 xA xk (xbs.map (.int .u8)) := P0.2.below hb6
        have ho6 : (w3.alloc (Obj.cells #[Value.int .i64 xf, .int .u64 xr, .int .i64 xn, .int .u64 xi, .int .u64 xar, .int .i64 xan, .int .u64 xai, .slice xA xk xc] 51)).ownsRow w.heap.size 5 1 (.slice A' xk c') xk (xbs.map (.int .u8)) := HO5.out
        refine (same_any xf xr xn xi xar xan xai xA A' xk xc c' xbs _ hxk (hr6.more hb6.size) (Reads.of_own ho6)).mono ?_
        rintro e w5 ⟨rfl, hb7⟩
        have hb8 := hb6.trans (hb7.mono hb6.size)
        have K1 := HK1.out.below hb7 HK1.out.lt
        have K2 := HK2.out.below hb7 HK2.out.lt
        have HO7 := Lib.hid (own_below ho6 hb7)
        have hlow' : ∀ g, (Value.slice A' xk c').ownBlock = some g → g < w2.heap.size := hlow
        have HLO := Lib.hid hlow'
        have hC := run_conv xbs xA xk xc _ _ hxk (P0.2.below hb8)
        have HPP := Lib.hid P0.2
        have HXK := Lib.hid hxk
        clear hlow hlow' hxk hr6 ho6 HO5 hb7 hb6 P0 HP a0 a1 a2 a3 a4 a5 a6 a7 b0 b1 b2 b3 b4 b5 b6 b7 HK1 HK2
        obtain ⟨a0, a1, a2, a3, a4, a5, a6, a7⟩ := blk_cell8 K1
        obtain ⟨b0, b1, b2, b3, b4, b5, b6, b7⟩ := blk_cell8 K2
        have HK1 := Lib.hid K1
        have HK2 := Lib.hid K2
        clear K1 K2
        go_wp2_with fail
        clear a0 a1 a2 a3 a4 a5 a6 a7 b0 b1 b2 b3 b4 b5 b6 b7 hC
        obtain ⟨wo, rfl⟩ : ∃ wo : World, wo = w5 := ⟨_, rfl⟩
        go_loopw [9] (fun k wr => ∃ j : Nat, j ≤ xk ∧ k = .int .i64 j ∧ Below w.heap.size w wr ∧ Blk wr w2.heap.size 51 #[.int .i64 xf, .int .u64 xr, .int .i64 xn, .int .u64 xi, .int .u64 xar, .int .i64 xan, .int .u64 xai, .slice A' xk c'] ∧
          Blk wr w3.heap.size 51 #[.int .i64 xf, .int .u64 xr, .int .i64 xn, .int .u64 xi, .int .u64 xar, .int .i64 xan, .int .u64 xai, .slice xA xk xc] ∧ ∃ ys : List Int, wr.ownsRow w.heap.size 5 1 (.slice A' xk c') xk (ys.map (.int .u8))) (fun k _ => xk - (intOf k).toNat)
        case atStart => exact ⟨0, Nat.zero_le _, rfl, hb8, HK1.out, HK2.out, xbs, HO7.out⟩
        case round =>
          obtain ⟨j, hj, rfl, hbr, K1, K2, ys, hoy⟩ := hrel
          obtain ⟨a0, a1, a2, a3, a4, a5, a6, a7⟩ := blk_cell8 K1
          obtain ⟨b0, b1, b2, b3, b4, b5, b6, b7⟩ := blk_cell8 K2
          clear HK1 HK2 HO7 hb8
          have HK1 := Lib.hid K1
          have HK2 := Lib.hid K2
          have HQ := Lib.hid hoy
          clear K1 K2 hoy
          by_cases hjk : j < xk
          · obtain ⟨g, hA⟩ : ∃ g, A' = some ⟨g, 0, none⟩ := by
              rcases HQ.out.2 with ⟨h', _⟩ | ⟨g', cap', cur, h', _⟩
              · injection h' with h1 h2; omega
              · injection h' with h1; exact ⟨g', h1⟩
            subst hA
            have hgl := HLO.out g rfl
            have hyl : ys.length = xk := by have := HQ.out.1; simpa using this
            have y0 := HQ.out.cellAt j (by omega)
            rw [List.getElem?_map, List.getElem?_eq_getElem (by omega)] at y0
            simp only [Option.map_some] at y0
            have hfz := HQ.out.frozenAt
            obtain ⟨v, hv⟩ : ∃ v, ys[j]'(by omega) = v := ⟨_, rfl⟩
            rw [hv] at y0
            have hgb : w.heap.size ≤ g := (HQ.out.lt g rfl).1
            clear hv
            go_wp2_with fail
            go_roundw
            case rel =>
              refine ⟨j + 1, by omega, by go_num, hbr.setCell (p := ⟨g, j, none⟩) hgb _, HK1.out.far (p := ⟨g, j, none⟩) (by simp; omega) _, HK2.out.far (p := ⟨g, j, none⟩) (by simp; omega) _, ys.set j ((v + 1) % 256), ?_⟩
              have := (HQ.out.stored j (.int .u8 ((v + 1) % 256))).1
              rw [← List.map_set] at this
              exact this
            case measure => simp [intOf]; omega
          · have hC := run_conv xbs xA xk xc _ _ HXK.out (HPP.out.below hbr)
            go_wp2_with fail
            refine (awake_any _).mono ?_
            rintro e w6 ⟨rfl, hb9⟩
            have hb10 := hbr.trans (hb9.mono hbr.size)
            go_wp2_with fail
            go_ret
            exact ⟨rfl, hb10⟩
  · go_enter Try.func9, Try.ntmps9
    go_wp2_with fail
    refine (awake_any _).mono ?_
    rintro e w1 ⟨rfl, hb1⟩
    go_wp2_with fail
    go_ret
    exact ⟨rfl, hb1⟩
end Go.Proofs.Ytpmkpkfkimcpjaa
