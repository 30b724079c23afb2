/- Chapter 14, the reference: a place in the place of another one. -/
import Derived.Test.YtcmidhecmhbeoaaWalkO
import Derived.Test.YtcmidhecmhbeoaaRf
namespace Go.Proofs.Ytcmidhecmhbeoaa
open Go.RowKit

/-- The place of the first one from m on. -/
def idxFrom (l : List Pl) (m : Nat) (x : Pl) : Int := if x ∈ l.drop m then (m + (l.drop m).idxOf x : Nat) else -1
theorem idxFrom_zero (l : List Pl) (x : Pl) : idxFrom l 0 x = idxP l x := by simp [idxFrom, idxP]
theorem idxFrom_end (l : List Pl) (x : Pl) : idxFrom l l.length x = -1 := by simp [idxFrom]
theorem idxFrom_hit {l : List Pl} {m : Nat} {x : Pl} (h : l[m]? = some x) : idxFrom l m x = m := by
  obtain ⟨hm, hx⟩ := List.getElem?_eq_some_iff.1 h
  unfold idxFrom
  rw [List.drop_eq_getElem_cons hm, hx]
  simp
theorem idxFrom_miss {l : List Pl} {m : Nat} {x y : Pl} (h : l[m]? = some y) (hne : y ≠ x) : idxFrom l m x = idxFrom l (m + 1) x := by
  obtain ⟨hm, hy⟩ := List.getElem?_eq_some_iff.1 h
  unfold idxFrom
  rw [List.drop_eq_getElem_cons hm, hy]
  by_cases hx : x ∈ l.drop (m + 1)
  · rw [if_pos (List.mem_cons_of_mem _ hx), if_pos hx, List.idxOf_cons, show (y == x) = false by simpa using hne]
    simp only [cond_false]
    omega
  · rw [if_neg (by simp only [List.mem_cons, not_or]; exact ⟨fun e => hne e.symm, hx⟩), if_neg hx]

/-- A value made of a row of the call's own. -/
def ownSpec (mk : Value → Value) (base : Nat) (l : List Pl) : Rg.Spec :=
  ⟨fun v w => ∃ A' c', v = mk (.slice A' l.length c') ∧ l.length ≤ c' ∧ c' ≤ maxLen ∧ w.ownsRow base 37 2 (.slice A' l.length c') l.length (l.flatMap Pl.cs),
   fun _ _ _ hb ⟨A', c', h1, h2, h3, h4⟩ => ⟨A', c', h1, h2, h3, own_below h4 hb⟩⟩

theorem own_set_far {w : World} {base size n : Nat} {e : TypeId} {v : Value} {xs : List Value} (h : w.ownsRow base e size v n xs) {p : Addr} (hne : v.ownBlock ≠ some p.block) (u : Value) : (w.setCell p u).ownsRow base e size v n xs := by
  obtain ⟨h1, h2⟩ := h
  refine ⟨h1, ?_⟩
  rcases h2 with h2 | ⟨g, cap, cur, rfl, b, c, d⟩
  · exact .inl h2
  · exact .inr ⟨g, cap, cur, rfl, b, (Below.heap_setCell w p u g (fun e => hne (by simp [Value.ownBlock, e]))).trans c, d⟩

structure SwInv (w : World) (g : Nat) (first : Int) (A' : Option Addr) (l : List Pl) (c' : Nat) (fn fs : Int) (W : World) : Prop where
  kg : Blk W g 25 #[.int .u64 first, .slice A' l.length c']
  k5 : Blk W (w.heap.size + 1 + 1) 37 #[.int .i64 fn, .int .u64 fs]
  k6 : Blk W (w.heap.size + 1 + 1 + 1) 25 #[.int .u64 0, .slice none 0 0]
  own : W.ownsRow w.heap.size 37 2 (.slice A' l.length c') l.length (l.flatMap Pl.cs)
  below : Below w.heap.size w W
theorem SwInv.drewN {w : World} {g : Nat} {first : Int} {A' : Option Addr} {l : List Pl} {c' : Nat} {fn fs : Int} {W : World} (h : SwInv w g first A' l c' fn fs W) (n : Nat) : SwInv w g first A' l c' fn fs (W.drewN n) :=
  ⟨h.kg, h.k5, h.k6, h.own, belowN h.below n⟩

def rswapSp (H H2 : Nat) (first : Int) (A : Option Addr) (c : Nat) (l : List Pl) : List (Tmp × Rg.Spec) :=
  [(31, .is (.pointer (some ⟨H, 0, none⟩))), (32, .is (.int .u64 first)), (33, .blk H (fun g => .slice (some ⟨g, 0, none⟩) 0 0) 37 #[]), (34, .is (.pointer (some ⟨H, 1, none⟩))), (35, .is (.slice A l.length c)),
    (36, ownSpec id H l), (37, ownSpec (fun v => .agg #[.int .u64 first, v]) H l), (10, .blk H2 (fun g => .pointer (some ⟨g, 0, none⟩)) 25 #[.int .u64 0, .slice none 0 0])]

set_option maxHeartbeats 2000000 in
theorem rswap_any (first on os fn fs : Int) (l : List Pl) (A : Option Addr) (c : Nat) (B : Nat) (w : World) (h : PR w B A l) (hB : B ≤ w.heap.size) (hl : l.length ≤ 100000) :
    Calls Try.prog 30 #[.agg #[.int .u64 first, .slice A l.length c], .agg #[.int .i64 on, .int .u64 os], .agg #[.int .i64 fn, .int .u64 fs]] w fun e w' => GivesF w first (swapL l ⟨on, os⟩ ⟨fn, fs⟩) e w' := by
  have h := h.more hB
  clear hB
  obtain ⟨hWs, hWb, hK3, hK4, hK5, hK6⟩ := swapW_facts w first A l.length c on os fn fs
  have hsw : swapW w first A l.length c on os fn fs = (((w.alloc (.cells #[.int .u64 first, .slice A l.length c] 25)).alloc (.cells #[.int .i64 on, .int .u64 os] 37)).alloc (.cells #[.int .i64 fn, .int .u64 fs] 37)).alloc (.cells #[.int .u64 0, .slice none 0 0] 25) := rfl
  have H := Lib.hid h
  clear h
  go_enter Try.func30, Try.ntmps30
  go_wp2_with fail
  rw [← hsw]
  generalize swapW w first A l.length c on os fn fs = W0 at hWs hWb hK3 hK4 hK5 hK6 hsw ⊢
  clear hsw
  go_loopw [8, 9] (fun at' i wr => ∃ m : Nat, m ≤ l.length ∧ i = .int .i64 ((m : Int) - 1) ∧ at' = .int .i64 (idxFrom l m ⟨on, os⟩) ∧ Below W0.heap.size W0 wr) (fun _ i _ => (intOf i + 1).toNat)
  case atStart => exact ⟨l.length, Nat.le_refl _, rfl, by rw [idxFrom_end], Below.refl _ _⟩
  case round =>
    obtain ⟨m, hm, rfl, rfl, hb2⟩ := hrel
    have hb3 := hWb.trans (hb2.mono (by omega))
    have K3 := hK3.below hb2 (by omega)
    have K4 := hK4.below hb2 (by omega)
    have hsz := hb2.size
    have hl3 := K3.lt
    have hl4 := K4.lt
    obtain ⟨a0, a1⟩ := blk_cell2 K3
    obtain ⟨b0, b1⟩ := blk_cell2 K4
    clear K3 K4
    by_cases hlt : 0 < m
    · obtain ⟨q, rfl⟩ : ∃ q, m = q + 1 := ⟨m - 1, by omega⟩
      obtain ⟨b, o, yn, ys, rfl, hB, hy, y0, y1⟩ := pl_elem (H.out.below hb3) (show q < l.length by omega)
      have hq1 : ((q + 1 : Nat) : Int) - 1 = q := by omega
      rw [hq1]
      have hE := run_eqP yn ys on os
      have HY := Lib.hid hy
      clear hy hq1
      by_cases he : (⟨yn, ys⟩ : Pl) = ⟨on, os⟩
      · rw [decide_eq_true he] at hE
        have HE := Lib.hid he
        clear he
        go_wp2_with fail
        go_quiet (fail)
        go_wp2_with fail
        go_roundw
        case rel => exact ⟨q, by omega, rfl, by rw [idxFrom_hit (by rw [HY.out, HE.out])], belowN hb2 _⟩
        case measure => simp [intOf]
      · rw [decide_eq_false he] at hE
        have HE := Lib.hid he
        clear he
        go_wp2_with fail
        go_quiet (fail)
        go_wp2_with fail
        go_roundw
        case rel => exact ⟨q, by omega, rfl, by rw [idxFrom_miss HY.out HE.out], belowN hb2 _⟩
        case measure => simp [intOf]
    · have hm0 : m = 0 := by omega
      subst hm0
      rw [idxFrom_zero]
      have hi1 := idxP_lo l ⟨on, os⟩
      have hi2 := idxP_hi l ⟨on, os⟩
      have hi3 := idxP_lt l ⟨on, os⟩
      obtain ⟨kk, hkk⟩ : ∃ kk, idxP l ⟨on, os⟩ = kk := ⟨_, rfl⟩
      have hsl : swapL l ⟨on, os⟩ ⟨fn, fs⟩ = if kk < 0 ∨ nodeB l fn kk = true then none else some (l.set kk.toNat ⟨fn, fs⟩) := by unfold swapL; rw [hkk]
      rw [hkk] at hi1 hi2 hi3 ⊢
      have HS := Lib.hid hsl
      have HI3 := Lib.hid hi3
      have K6 := hK6.below hb2 (by omega)
      have hl6 := K6.lt
      have hf6 := K6.frozen
      obtain ⟨d0, d1⟩ := blk_cell2 K6
      clear hsl hkk hi3 K6
      by_cases hk0 : kk < 0
      · go_wp2_with fail
        have hnone : swapL l ⟨on, os⟩ ⟨fn, fs⟩ = none := by rw [HS.out, if_pos (.inl hk0)]
        refine bodyPost_ret (v := .tuple #[.agg #[.int .u64 0, .slice none 0 0], .bool false]) (by simp [results, Try.results30, go_sem, d0, d1]) rfl ?_
        rw [hnone]
        exact ⟨rfl, below_set2 hb3 (by omega) _ _⟩
      · go_wp2_with fail
        have K3 := hK3.below hb2 (by omega)
        have HK3 := Lib.hid K3
        have HB3 := Lib.hid hb3
        clear K3
        refine Rs.region 8 (rswapSp w.heap.size wr.heap.size first A c l) [31, 32, 33, 34, 35, 36, 37, 10] rfl (by decide) (by kernel_rfl) (by kernel_rfl) (by kernel_rfl) ?_ ?_
        · intro vals W hb
          have kk3 := HK3.out.below hb hl3
          obtain ⟨y0, y1⟩ := blk_cell2 kk3
          have hbW := HB3.out.trans (hb.mono HB3.out.size)
          have hBW := Lib.hid hbW
          have hszW := hbW.size
          clear kk3 hbW
          simp only [List.take_succ_cons, List.take_zero]
          refine ⟨Rs.stepL [] (by kernel_rfl) ?_, Rs.stepL [31] (by kernel_rfl) ?_, Rs.stepL [] (by kernel_rfl) ?_, Rs.stepL [] (by kernel_rfl) ?_, Rs.stepL [34] (by kernel_rfl) ?_, Rs.stepL [33, 35] (by kernel_rfl) ?_, Rs.stepL [32, 36] (by kernel_rfl) ?_, Rs.stepL [] (by kernel_rfl) ?_, trivial⟩
          · rintro -
            refine ⟨trivial, fun K hK => ?_⟩
            simp only [Rs.frm, List.foldl_cons, List.foldl_nil, Act.put, List.setIfInBounds_toArray, List.set_cons_succ, List.set_cons_zero] at hK ⊢
            have HK := Lib.hid hK
            clear hK
            go_wp2_with fail
            exact HK.out _ _ (Below.refl _ _) rfl
          · rintro ⟨h31, -⟩
            have e31 : vals 31 = _ := h31
            refine ⟨trivial, fun K hK => ?_⟩
            simp only [Rs.frm, List.foldl_cons, List.foldl_nil, Act.put, List.setIfInBounds_toArray, List.set_cons_succ, List.set_cons_zero] at hK ⊢
            have HK := Lib.hid hK
            clear hK
            go_wp2_with fail
            exact HK.out _ _ (Below.refl _ _) rfl
          · rintro -
            refine ⟨trivial, fun K hK => ?_⟩
            simp only [Rs.frm, List.foldl_cons, List.foldl_nil, Act.put, List.setIfInBounds_toArray, List.set_cons_succ, List.set_cons_zero] at hK ⊢
            have HK := Lib.hid hK
            clear hK
            go_wp2_with fail
            exact HK.out _ _ ((Below.refl _ _).alloc (Nat.le_refl _) _) ⟨W.heap.size, hszW, rfl, Blk.new _ _ _⟩
          · rintro -
            refine ⟨trivial, fun K hK => ?_⟩
            simp only [Rs.frm, List.foldl_cons, List.foldl_nil, Act.put, List.setIfInBounds_toArray, List.set_cons_succ, List.set_cons_zero] at hK ⊢
            have HK := Lib.hid hK
            clear hK
            go_wp2_with fail
            exact HK.out _ _ (Below.refl _ _) rfl
          · rintro ⟨h34, -⟩
            have e34 : vals 34 = _ := h34
            refine ⟨trivial, fun K hK => ?_⟩
            simp only [Rs.frm, List.foldl_cons, List.foldl_nil, Act.put, List.setIfInBounds_toArray, List.set_cons_succ, List.set_cons_zero] at hK ⊢
            have HK := Lib.hid hK
            clear hK
            go_wp2_with fail
            exact HK.out _ _ (Below.refl _ _) rfl
          · rintro ⟨⟨g, hg1, hg2, hg3⟩, h35, -⟩
            have e33 : vals 33 = .slice (some ⟨g, 0, none⟩) 0 0 := hg2
            have e35 : vals 35 = .slice A l.length c := h35
            refine ⟨trivial, fun K hK => ?_⟩
            simp only [Rs.frm, List.foldl_cons, List.foldl_nil, Act.put, List.setIfInBounds_toArray, List.set_cons_succ, List.set_cons_zero] at hK ⊢
            have HK := Lib.hid hK
            clear hK
            obtain ⟨i0, hi, hz0, hz1, hz2⟩ := info_parts info37
            refine wpList_append_lit W rfl (.tmp 33) (.tmp 35) 23 rfl 37 i0 _ 2 16 Try.underlying23 hi hz0 hz1 hz2 rfl (by decide) g w.heap.size e33 hg3 hg1 w.heap.size A l.length c (l.flatMap Pl.cs) e35 (H.out.below hBW.out) (pl_one l) (by simp only [maxLen]; omega) (by omega) ?_
            intro A' c' W' hc1 hc2 hown hb'
            exact HK.out _ _ hb' ⟨A', c', rfl, hc1, hc2, hown⟩
          · rintro ⟨h32, ⟨A', c', h36, hc1, hc2, hown⟩, -⟩
            have e32 : vals 32 = .int .u64 first := h32
            have e36 : vals 36 = .slice A' l.length c' := h36
            refine ⟨trivial, fun K hK => ?_⟩
            simp only [Rs.frm, List.foldl_cons, List.foldl_nil, Act.put, List.setIfInBounds_toArray, List.set_cons_succ, List.set_cons_zero] at hK ⊢
            have HK := Lib.hid hK
            have HO := Lib.hid hown
            clear hK hown
            go_wp2_with fail
            exact HK.out _ _ (Below.refl _ _) ⟨A', c', rfl, hc1, hc2, HO.out⟩
          · rintro -
            refine ⟨trivial, fun K hK => ?_⟩
            simp only [Rs.frm, List.foldl_cons, List.foldl_nil, Act.put, List.setIfInBounds_toArray, List.set_cons_succ, List.set_cons_zero] at hK ⊢
            have HK := Lib.hid hK
            clear hK
            go_wp2_with fail
            exact HK.out _ _ ((Below.refl _ _).alloc (Nat.le_refl _) _) ⟨W.heap.size, hb.size, rfl, Blk.new _ _ _⟩
        · intro vals W hb hL
          simp only [List.drop_succ_cons, List.drop_zero]
          obtain ⟨-, -, -, -, -, -, ⟨A', c', h37, hc1, hc2, hown⟩, ⟨g, hg1, hg2, hg3⟩, -⟩ := hL
          have e37 : vals 37 = .agg #[.int .u64 first, .slice A' l.length c'] := h37
          have e10 : vals 10 = .pointer (some ⟨g, 0, none⟩) := hg2
          simp only [Rs.frm, List.foldl_cons, List.foldl_nil, Act.put, List.setIfInBounds_toArray, List.set_cons_succ, List.set_cons_zero]
          rw [e37, e10]
          have hk5 := (hK5.below hb2 (by omega)).below hb (by omega)
          have hk6 := (hK6.below hb2 (by omega)).below hb (by omega)
          have hbW := hb3.trans (hb.mono hb3.size)
          have hne := own_blk_ne hown hg3 (by decide)
          have hgl := hg3.lt
          have hgf := hg3.frozen
          obtain ⟨z0, z1⟩ := blk_cell2 hg3
          have K5 := Lib.hid hk5
          have K6 := Lib.hid hk6
          have G3 := Lib.hid hg3
          have HO := Lib.hid hown
          have HB := Lib.hid hb
          clear hk5 hk6 hg3 hown hg2 h37 hb
          go_wp2_with fail
          have GG := Lib.hid (blk_set2 G3.out (.int .u64 first) (.slice A' l.length c'))
          have K5' := Lib.hid ((K5.out.far (p := ⟨g, 0, none⟩) (by simp; omega) (.int .u64 first)).far (p := ⟨g, 1, none⟩) (by simp; omega) (.slice A' l.length c'))
          have K6' := Lib.hid ((K6.out.far (p := ⟨g, 0, none⟩) (by simp; omega) (.int .u64 first)).far (p := ⟨g, 1, none⟩) (by simp; omega) (.slice A' l.length c'))
          have HO' := Lib.hid (own_set_far (own_set_far HO.out (p := ⟨g, 0, none⟩) hne (.int .u64 first)) (p := ⟨g, 1, none⟩) hne (.slice A' l.length c'))
          have hb4 := below_set2 hbW (g := g) (by omega) (.int .u64 first) (.slice A' l.length c')
          generalize (W.setCell ⟨g, 0, none⟩ (.int .u64 first)).setCell ⟨g, 1, none⟩ (.slice A' l.length c') = W2 at GG K5' K6' HO' hb4 ⊢
          obtain ⟨hkl, hkt⟩ := HI3.out (by omega)
          obtain ⟨q, hq⟩ : ∃ q : Nat, kk.toNat = q := ⟨_, rfl⟩
          have HSl := HS.out
          rw [hq] at hkl hkt HSl
          subst hkt
          have HSL := Lib.hid HSl
          have hgsz : g < W2.heap.size := GG.out.lt
          clear HSl hq HI3 HS K5 K6 G3 HO HB hne hgl hgf z0 z1 hbW e37 e10 a0 a1 b0 b1 d0 d1 hf6 HK3 HB3 hb2 hb3 hK3 hK4 hK5 hK6 hWs
          go_loopw [11] (fun i wr' => ∃ m : Nat, m ≤ l.length ∧ i = .int .i64 m ∧ SwInv w g first A' l c' fn fs wr' ∧ ∀ j : Nat, j < m → (j : Int) ≠ q → (l[j]?).map (·.n) ≠ some fn) (fun i _ => l.length - (intOf i).toNat)
          case atStart => exact ⟨0, Nat.zero_le _, rfl, ⟨GG.out, K5'.out, K6'.out, HO'.out, hb4⟩, fun j hj => by omega⟩
          case round =>
            obtain ⟨m, hm, rfl, hsi, hn⟩ := hrel
            obtain ⟨jg, j5, j6, jo, jb⟩ := hsi
            obtain ⟨z0, z1⟩ := blk_cell2 jg
            obtain ⟨x0, x1⟩ := blk_cell2 j5
            have hl5 := j5.lt
            have hgs := jg.lt
            have HI := Lib.hid (SwInv.mk jg j5 j6 jo jb)
            clear jg j5 j6 jo jb
            have HN := Lib.hid hn
            clear hn
            by_cases hlt : m < l.length
            · obtain ⟨b, o, yn, ys, rfl, hB, hy, y0, y1⟩ := pl_elem (Reads.of_own HI.out.own) hlt
              have HY := Lib.hid hy
              clear hy h
              by_cases hmk : m = q
              · have hd : decide (m = q) = true := by simp [hmk]
                have hd' : ((m : Int) != q) = false := by simp [hmk]
                have HM := Lib.hid hmk
                clear hmk
                go_wp2_with fail
                go_quiet (fail)
                go_wp2_with fail
                go_roundw
                case rel => exact ⟨m + 1, by omega, by go_num, HI.out.drewN _, fun j hj hjb => by
                  rcases Nat.lt_or_ge j m with hh | hh
                  · exact HN.out j hh hjb
                  · exact absurd (by rw [show j = m by omega, HM.out]) hjb⟩
                case measure => simp [intOf]; omega
              · have hd : decide (m = q) = false := by simp [hmk]
                have hd' : ((m : Int) != q) = true := by simp; omega
                have HM := Lib.hid hmk
                clear hmk
                by_cases he : yn = fn
                · have he' : (yn == fn) = true := by simp [he]
                  have HE := Lib.hid he
                  have hl6w := HI.out.k6.lt
                  have hf6w := HI.out.k6.frozen
                  obtain ⟨d0, d1⟩ := blk_cell2 HI.out.k6
                  clear he
                  go_wp2_with fail
                  go_quiet (fail)
                  go_wp2_with fail
                  have hnone : swapL l ⟨on, os⟩ ⟨fn, fs⟩ = none := by
                    rw [HSL.out, if_pos]
                    exact .inr (decide_eq_true ⟨m, hlt, by have := HM.out; omega, by rw [HY.out]; simp [HE.out]⟩)
                  rw [hnone]
                  refine bodyPost_ret (v := .tuple #[.agg #[.int .u64 0, .slice none 0 0], .bool false]) (by simp [results, Try.results30, go_sem, d0, d1]) rfl ?_
                  exact ⟨rfl, below_set2 (belowN HI.out.below _) (by omega) _ _⟩
                · have he' : (yn == fn) = false := by simp [he]
                  have HE := Lib.hid he
                  clear he
                  go_wp2_with fail
                  go_quiet (fail)
                  go_wp2_with fail
                  go_roundw
                  case rel => exact ⟨m + 1, by omega, by go_num, HI.out.drewN _, fun j hj hjb => by
                    rcases Nat.lt_or_ge j m with hh | hh
                    · exact HN.out j hh hjb
                    · rw [show j = m by omega, HY.out]; simpa using HE.out⟩
                  case measure => simp [intOf]; omega
            · have hnode : nodeB l fn q = false := decide_eq_false (by rintro ⟨k, hk, h1, h2⟩; exact HN.out k (by omega) h1 h2)
              have hsome : swapL l ⟨on, os⟩ ⟨fn, fs⟩ = some (l.set q ⟨fn, fs⟩) := by rw [HSL.out, if_neg (by rw [hnode]; simp)]
              have HSO := Lib.hid hsome
              clear hnode hsome HSL HN
              have ho4 := HI.out.own
              obtain ⟨r, rfl, hrw⟩ := own_addr ho4 (by omega)
              have hrl := (ho4.lt r rfl).2
              have rg := ho4.frozenAt
              obtain ⟨yn, ys, hyq⟩ : ∃ yn ys, l[q] = ⟨yn, ys⟩ := ⟨_, _, rfl⟩
              have f0 := flat_get Pl.cs 2 pl_len l q 0 hkl (by omega)
              have f1 := flat_get Pl.cs 2 pl_len l q 1 hkl (by omega)
              rw [hyq] at f0 f1
              rw [Nat.add_zero] at f0
              have v0 : wr.cell? ⟨r, q * 2, none⟩ = some (.int .i64 yn) := (ho4.cellAt (q * 2) (by omega)).trans f0
              have v1 : wr.cell? ⟨r, q * 2 + 1, none⟩ = some (.int .u64 ys) := (ho4.cellAt (q * 2 + 1) (by omega)).trans f1
              have hne := own_blk_ne ho4 HI.out.kg (by decide)
              have hne6 := own_blk_ne ho4 HI.out.k6 (by decide)
              simp only [Value.ownBlock, ne_eq, Option.some.injEq] at hne hne6
              have n1 : g ≠ r := fun e => hne e.symm
              have n2 : w.heap.size + 1 + 1 + 1 ≠ r := fun e => hne6 e.symm
              have hl6w := HI.out.k6.lt
              have hf6w := HI.out.k6.frozen
              obtain ⟨t0, t1⟩ := blk_cell2 HI.out.k6
              have HO4 := Lib.hid ho4
              clear ho4 hyq f0 f1
              go_wp2_with fail
              rw [HSO.out]
              refine bodyPost_ret (v := .tuple #[.agg #[.int .u64 first, .slice (some ⟨r, 0, none⟩) l.length c'], .bool true]) (by simp [results, Try.results30, go_sem, t0, t1]) rfl ?_
              have hsl : (l.set q ⟨fn, fs⟩).length = l.length := by simp
              have o2 := (HO4.out.stored (q * 2) (.int .i64 fn)).1
              have o3 := (o2.stored (q * 2 + 1) (.int .u64 fs)).1
              rw [flat_set] at o3
              have hon : ((Value.slice (some ⟨r, 0, none⟩) l.length c').ownBlock ≠ some (w.heap.size + 1 + 1 + 1)) := by simp [Value.ownBlock]; omega
              have o4 := own_set_far (own_set_far o3 (p := ⟨w.heap.size + 1 + 1 + 1, 0, none⟩) hon (.int .u64 first)) (p := ⟨w.heap.size + 1 + 1 + 1, 1, none⟩) hon (.slice (some ⟨r, 0, none⟩) l.length c')
              refine ⟨some ⟨r, 0, none⟩, c', by rw [hsl], ?_, by rw [hsl]; exact hc1, hc2, by rw [hsl]; exact o4⟩
              exact below_set2 ((HI.out.below.setCell (p := ⟨r, q * 2, none⟩) hrw _).setCell (p := ⟨r, q * 2 + 1, none⟩) hrw _) (by omega) _ _
end Go.Proofs.Ytcmidhecmhbeoaa
