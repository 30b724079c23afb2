/- Chapter 06: what Clone of bytes and Highest compute; what the reference's Highest and SamePromise compute. -/
import Derived.Test.YtpmkpkfkimcpjaaWalkE
import Derived.Laws.BytesArg
namespace Go.Proofs.Ytpmkpkfkimcpjaa
open Go.RowKit

theorem u8_one (l : List Int) : ∀ u ∈ l.map (Value.int .u8), u.oneCell' = true := by
  intro u hu
  obtain ⟨b, _, rfl⟩ := List.mem_map.1 hu
  rfl

set_option maxHeartbeats 400000 in
theorem clone_any (bs : List Int) (A : Option Addr) (n c : Nat) (w : World) (h : Reads w w.heap.size 1 A n (bs.map (.int .u8))) (hn : n ≤ 10000) :
    Calls Try.prog 37 #[.slice A n c] w fun e w' => ∃ A' c', e = .returned (.slice A' n c') ∧ Below w.heap.size w w' ∧ w'.ownsRow w.heap.size 5 1 (.slice A' n c') n (bs.map (.int .u8)) := by
  obtain ⟨i0, hi, hz0, hz1, hz2⟩ := info_parts info5
  rcases A with _ | ad
  · have h0 : n = 0 := by
      rcases Nat.eq_zero_or_pos n with h0 | h0
      · exact h0
      · obtain ⟨ad, h, _⟩ := h.2 h0
        cases h
    subst h0
    have hn0 : bs.map (Value.int .u8) = [] := List.eq_nil_of_length_eq_zero (by simpa using h.1)
    rw [hn0]
    clear h hn0
    go_enter Try.func37, Try.ntmps37
    have hE : ∀ W, (binOp .eql 49 (.slice none 0 c) (.slice none 0 0)).run Try.prog W = .ok (.bool true) W := fun _ => rfl
    go_wp2
    go_ret
    exact ⟨none, 0, rfl, Below.refl _ _, rfl, .inl ⟨rfl, rfl⟩⟩
  · have H := Lib.hid h
    clear h
    have hE : ∀ W, (binOp .eql 49 (.slice (some ad) n c) (.slice none 0 0)).run Try.prog W = .ok (.bool false) W := fun _ => rfl
    go_enter Try.func37, Try.ntmps37
    go_wp2_with (at_builtin; refine wpList_append_any _ rfl (.tmp 5) (.tmp 6) 49 rfl w.heap.size 5 i0 _ 1 1 Try.underlying49 hi hz0 hz1 hz2 rfl (by decide) (.slice (some ⟨w.heap.size, 0, none⟩) 0 0) 0 [] rfl (World.ownsRow_made w #[] 0 (Nat.le_refl _) (Nat.zero_le _) rfl) w.heap.size (some ad) n c (bs.map (.int .u8)) rfl (H.out.alloc (Nat.le_refl _) _) (u8_one bs) ?c1 ?c2 ?c3 ?_)
    case c1 => simp only [maxLen]; omega
    case c2 => omega
    case c3 => simp
    intro v1 w1 hown hg hat
    obtain ⟨hb, hlt, A', c', rfl, _, _, _, HO⟩ := lit_post hown hg
    have HOO := Lib.hid HO
    clear hown hg hat HO
    go_wp2_with fail
    go_ret
    exact ⟨A', c', rfl, hb, HOO.out⟩

theorem own_low {w : World} {base base' : Nat} {e : TypeId} {size n : Nat} {v : Value} {xs : List Value} (h : w.ownsRow base e size v n xs) (hb : base' ≤ base) : w.ownsRow base' e size v n xs := by
  obtain ⟨h1, h2⟩ := h
  refine ⟨h1, ?_⟩
  rcases h2 with h2 | ⟨g, cap, cur, a, b, c⟩
  · exact .inl h2
  · exact .inr ⟨g, cap, cur, a, Nat.le_trans hb b, c⟩
theorem own_set8 {w : World} {B : Nat} {e : TypeId} {size n : Nat} {v : Value} {xs : List Value} (h : w.ownsRow B e size v n xs) {g : Nat} (hg : g < B) (v0 v1 v2 v3 v4 v5 v6 v7 : Value) :
    World.ownsRow ((((((((w.setCell ⟨g, 0, none⟩ v0).setCell ⟨g, 1, none⟩ v1).setCell ⟨g, 2, none⟩ v2).setCell ⟨g, 3, none⟩ v3).setCell ⟨g, 4, none⟩ v4).setCell ⟨g, 5, none⟩ v5).setCell ⟨g, 6, none⟩ v6).setCell ⟨g, 7, none⟩ v7) B e size v n xs :=
  ownsRow_setCell_below (ownsRow_setCell_below (ownsRow_setCell_below (ownsRow_setCell_below (ownsRow_setCell_below (ownsRow_setCell_below (ownsRow_setCell_below (ownsRow_setCell_below h (a := ⟨g, 0, none⟩) hg v0) (a := ⟨g, 1, none⟩) hg v1) (a := ⟨g, 2, none⟩) hg v2) (a := ⟨g, 3, none⟩) hg v3) (a := ⟨g, 4, none⟩) hg v4) (a := ⟨g, 5, none⟩) hg v5) (a := ⟨g, 6, none⟩) hg v6) (a := ⟨g, 7, none⟩) hg v7

def PR (w : World) (B : Nat) (x : Prm) : Prop := x.bs.length = x.n ∧ Reads w B 1 x.A x.n (x.bs.map (.int .u8))

theorem gstepP_mem (o : Option Prm) (y z : Prm) (h : gstepP o y = some z) : z = y ∨ o = some z := by
  unfold gstepP at h
  cases o with
  | none => injection h with h; exact .inl h.symm
  | some x =>
    simp only [] at h
    by_cases hc : cmpB x.a y.a < 0
    · rw [if_pos hc] at h; injection h with h; exact .inl h.symm
    · rw [if_neg hc] at h; exact .inr h
theorem foldl_mem : ∀ (l : List Prm) (o : Option Prm) (z : Prm), l.foldl gstepP o = some z → z ∈ l ∨ o = some z
  | [], o, z, h => .inr h
  | y :: l, o, z, h => by
    rcases foldl_mem l _ z h with h | h
    · exact .inl (List.mem_cons_of_mem _ h)
    · rcases gstepP_mem _ _ _ h with h | h
      · exact .inl (by rw [h]; exact List.mem_cons_self)
      · exact .inr h
theorem highP_mem (l : List Prm) (z : Prm) (h : highP l = some z) : z ∈ l := by
  rcases foldl_mem _ _ _ h with h | h
  · exact (List.mem_filter.1 h).1
  · cases h
theorem highP_pr {w : World} {B : Nat} {l : List Prm} (h : ∀ x ∈ l, PR w B x ∧ x.n ≤ 10000) : PR w B ((highP l).getD Prm.zero) ∧ ((highP l).getD Prm.zero).n ≤ 10000 := by
  cases hz : highP l with
  | none => exact ⟨⟨rfl, Reads.none_⟩, Nat.zero_le _⟩
  | some z => exact h z (highP_mem l z hz)

def filt (l : List Prm) (m : Nat) : List Prm := (l.take m).filter nzB
theorem filt_len (l : List Prm) (m : Nat) : (filt l m).length ≤ l.length := Nat.le_trans (List.length_filter_le _ _) (by simp; omega)
theorem filt_yes (l : List Prm) (m : Nat) (h : m < l.length) (hy : nzB l[m] = true) : filt l (m + 1) = filt l m ++ [l[m]] := by
  unfold filt; rw [take_snoc' l m h, List.filter_append, List.filter_cons_of_pos hy, List.filter_nil]
theorem filt_no (l : List Prm) (m : Nat) (h : m < l.length) (hy : nzB l[m] = false) : filt l (m + 1) = filt l m := by
  unfold filt; rw [take_snoc' l m h, List.filter_append, List.filter_cons_of_neg (by simp [hy]), List.filter_nil, List.append_nil]

set_option maxHeartbeats 2000000 in
theorem high_any (l : List Prm) (A : Option Addr) (cap : Nat) (w : World) (h : Reads w w.heap.size 8 A l.length (l.flatMap Prm.cs)) (hp : ∀ x ∈ l, PR w w.heap.size x ∧ x.n ≤ 10000) (hl : l.length ≤ 100) :
    Calls Try.prog 24 #[.slice A l.length cap] w fun e w' => ∃ A' c', e = .returned (.tuple #[.agg ({ (highP l).getD Prm.zero with A := A', c := c' } : Prm).cs.toArray, .bool (highP l).isSome]) ∧ Below w.heap.size w w' ∧
      w'.ownsRow w.heap.size 5 1 (.slice A' ((highP l).getD Prm.zero).n c') ((highP l).getD Prm.zero).n (((highP l).getD Prm.zero).bs.map (.int .u8)) := by
  obtain ⟨i0, hi, hz0, hz1, hz2⟩ := info_parts info51
  have hpr := highP_pr hp
  have HPR := Lib.hid hpr
  clear hp hpr
  go_enter Try.func24, Try.ntmps24
  go_wp2
  go_loopw [4, 6, 11] (fun s p k wr => ∃ m : Nat, m ≤ l.length ∧ k = .int .i64 m ∧ Blk wr w.heap.size 51 Prm.zero.cs.toArray ∧ wr.ownsRow (w.heap.size + 1) 51 8 s (filt l m).length ((filt l m).flatMap Prm.cs) ∧ Below w.heap.size w wr) (fun _ _ k _ => l.length - (intOf k).toNat)
  case atStart => exact ⟨0, Nat.zero_le _, rfl, Blk.new _ _ _, ⟨rfl, .inl ⟨rfl, rfl⟩⟩, (Below.refl _ _).alloc (Nat.le_refl _) _⟩
  case round =>
    obtain ⟨m, hm, rfl, hk, hown, hb⟩ := hrel
    have hlt2 := hk.lt
    have hfl := filt_len l m
    by_cases hlt : m < l.length
    · obtain ⟨b, o, rfl, hB, hc⟩ := (h.below hb).elem prm_len hlt (by omega)
      obtain ⟨yf, yr, yn, yi, yar, yan, yai, yA, yk, yc, ybs, hy⟩ := mkP_ex l[m]
      rw [hy] at hc
      have y0 := hc 0 _ (by omega) rfl
      have y1 := hc 1 _ (by omega) rfl
      have y2 := hc 2 _ (by omega) rfl
      have y3 := hc 3 _ (by omega) rfl
      have y4 := hc 4 _ (by omega) rfl
      have y5 := hc 5 _ (by omega) rfl
      have y6 := hc 6 _ (by omega) rfl
      have y7 := hc 7 _ (by omega) rfl
      rw [Nat.add_zero] at y0
      dsimp only [mkP] at y0 y1 y2 y3 y4 y5 y6 y7
      have hE := run_neB yar yan yai 0 0 0
      have hnz : nzB l[m] = !decide ((⟨yar, yan, yai⟩ : Bal) = ⟨0, 0, 0⟩) := by rw [hy]; rfl
      have HY := Lib.hid hy
      have HK := Lib.hid hk
      have HO := Lib.hid hown
      clear hy hk hown h hc
      by_cases hz : (⟨yar, yan, yai⟩ : Bal) = ⟨0, 0, 0⟩
      · rw [decide_eq_true hz] at hE hnz
        have hf := filt_no l m hlt (by rw [hnz]; rfl)
        have HF := Lib.hid hf
        clear hz hnz hf
        obtain ⟨A2, c2, hs, hc2, hc3⟩ := own_form HO.out
        subst hs
        go_wp2_with fail
        go_roundw
        case rel =>
          refine ⟨m + 1, by omega, by go_num, HK.out.alloc _, ?_, hb.alloc hb.size _⟩
          rw [HF.out]; exact HO.out.alloc _
        case measure => simp [intOf]; omega
      · rw [decide_eq_false hz] at hE hnz
        have hf := filt_yes l m hlt (by rw [hnz]; rfl)
        rw [HY.out] at hf
        have HF := Lib.hid hf
        clear hz hnz hf
        obtain ⟨A2, c2, hs, hc2, hc3⟩ := own_form HO.out
        subst hs
        go_wp2_with (at_builtin; (refine wpList_append_own _ rfl (.tmp 19) (.tmp 21) 48 rfl (w.heap.size + 1) 51 i0 _ 8 80 Try.underlying48 hi hz0 hz1 hz2 rfl (by decide) _ (filt l m).length _ rfl ((HO.out.alloc _).alloc _) ⟨wr.heap.size + 1, 0, none⟩ 1 1 (mkP yf yr yn yi yar yan yai yA yk yc ybs).cs rfl rfl ?c1 ?c2 ?c3 ?c4 ?c5 ?_))
        case c1 => intro j u hj; match j, hj with | 0, hj => (simp [Prm.cs, mkP] at hj; subst hj; simp [go_sem]) | 1, hj => (simp [Prm.cs, mkP] at hj; subst hj; simp [go_sem]) | 2, hj => (simp [Prm.cs, mkP] at hj; subst hj; simp [go_sem]) | 3, hj => (simp [Prm.cs, mkP] at hj; subst hj; simp [go_sem]) | 4, hj => (simp [Prm.cs, mkP] at hj; subst hj; simp [go_sem]) | 5, hj => (simp [Prm.cs, mkP] at hj; subst hj; simp [go_sem]) | 6, hj => (simp [Prm.cs, mkP] at hj; subst hj; simp [go_sem]) | 7, hj => (simp [Prm.cs, mkP] at hj; subst hj; simp [go_sem])
        case c2 => have := prm_one [mkP yf yr yn yi yar yan yai yA yk yc ybs]; simpa using this
        case c3 => simp only [maxLen]; omega
        case c4 => omega
        case c5 => have := hb.size; simp; omega
        intro v' w1 hown' hgrow _
        have hb' : Below w.heap.size w w1 := ((hb.alloc hb.size _).alloc (by have := hb.size; simp; omega) _).grown hgrow (by have := hb.size; simp; omega) (fun k hk => by have := (HO.out.lt k hk).1; omega)
        have hk' : Blk w1 w.heap.size 51 Prm.zero.cs.toArray := ((HK.out.alloc _).alloc _).grown hgrow (fun he => by have := (HO.out.lt _ he.symm).1; omega)
        have HO' := Lib.hid hown'
        have HK' := Lib.hid hk'
        clear hown' hgrow hk'
        go_wp2
        go_roundw
        case rel =>
          refine ⟨m + 1, by omega, by go_num, HK'.out, ?_, hb'⟩
          rw [HF.out]
          simpa using HO'.out
        case measure => simp [intOf]; omega
    · have hml : m = l.length := by omega
      have hft : filt l m = l.filter nzB := by unfold filt; rw [hml, List.take_length]
      rw [hft] at hown
      obtain ⟨A2, c2, rfl, hc2, hc3⟩ := own_form hown
      have G := greatestP_any (l.filter nzB) A2 c2 wr (Reads.of_own hown) (by rw [← hft]; omega)
      have hz : greatP (l.filter nzB) = highP l := rfl
      rw [hz] at G
      have P := HPR.out
      obtain ⟨xf, xr, xn, xi, xar, xan, xai, xA, xk, xc, xbs, hx⟩ := mkP_ex ((highP l).getD Prm.zero)
      rw [hx] at P G
      have HG := Lib.hid G
      have HP := Lib.hid P
      have HX := Lib.hid hx
      clear hx hml h G P hft hz hown
      go_wp2_with fail
      refine HG.out.mono ?_
      rintro e w1 ⟨rfl, hb1⟩
      have hbb := hb.trans (hb1.mono hb.size)
      have HK1 := Lib.hid (hk.below hb1 hlt2)
      have HR := Lib.hid ((HP.out.1.2.below hbb).more hbb.size)
      have hz1 := hbb.size
      have hl1 := HK1.out.lt
      have hfk1 := HK1.out.frozen
      obtain ⟨e0, e1, e2, e3, e4, e5, e6, e7⟩ := blk_cell8 (show Blk w1 w.heap.size 51 #[.int .i64 0, .int .u64 0, .int .i64 0, .int .u64 0, .int .u64 0, .int .i64 0, .int .u64 0, .slice none 0 0] from HK1.out)
      clear hb hb1 hk HG
      unfold mkP
      dsimp only [Prm.cs]
      go_wp2_with fail
      refine (clone_any xbs xA xk xc _ ((HR.out.alloc (Nat.le_refl _) _).more (by simp)) HP.out.2).mono ?_
      rintro e w2 ⟨A', c', rfl, hb2, ho2⟩
      obtain ⟨hc2', hf2⟩ := bcell hb2
      have HK2 := Lib.hid ((HK1.out.alloc (Obj.cells #[Value.int .i64 xf, .int .u64 xr, .int .i64 xn, .int .u64 xi, .int .u64 xar, .int .i64 xan, .int .u64 xai, .slice xA xk xc] 51)).below hb2 (by simp; omega))
      have HO2 := Lib.hid ho2
      have hz2' := hb2.size
      have hb3 := (hbb.alloc hbb.size (Obj.cells #[Value.int .i64 xf, .int .u64 xr, .int .i64 xn, .int .u64 xi, .int .u64 xar, .int .i64 xan, .int .u64 xai, .slice xA xk xc] 51)).trans (hb2.mono (by simp; omega))
      have hl2 := HK2.out.lt
      have hfk := HK2.out.frozen
      clear ho2 hb2 hbb
      go_wp2_with fail
      obtain ⟨d0, d1, d2, d3, d4, d5, d6, d7⟩ := blk_cell8 (show Blk w2 w.heap.size 51 #[.int .i64 0, .int .u64 0, .int .i64 0, .int .u64 0, .int .u64 0, .int .i64 0, .int .u64 0, .slice none 0 0] from HK2.out)
      refine bodyPost_ret (v := .tuple #[.agg #[.int .i64 xf, .int .u64 xr, .int .i64 xn, .int .u64 xi, .int .u64 xar, .int .i64 xan, .int .u64 xai, .slice A' xk c'], .bool (highP l).isSome]) (by simp [results, Try.results24, go_sem, d0, d1, d2, d3, d4, d5, d6, d7]) rfl ⟨A', c', by rw [HX.out]; rfl, ?_, ?_⟩
      · exact below_set8 (hb3.setCell (p := ⟨w1.heap.size, 7, none⟩) hz1 _) (Nat.le_refl _) _ _ _ _ _ _ _ _
      · rw [HX.out]
        refine own_low (base := (w1.alloc (Obj.cells #[Value.int .i64 xf, .int .u64 xr, .int .i64 xn, .int .u64 xi, .int .u64 xar, .int .i64 xan, .int .u64 xai, .slice xA xk xc] 51)).heap.size) ?_ (by simp; omega)
        exact own_set8 (ownsRow_setCell_below HO2.out (by simp) _) (by simp; omega) _ _ _ _ _ _ _ _
end Go.Proofs.Ytpmkpkfkimcpjaa
