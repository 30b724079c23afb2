/- Chapter 05: slices.Clone and slices.Delete of messages (turned from my chapter 14 texts). -/
import Derived.Test.YtfmflbcmigiciaaWalkG
namespace Go.Proofs.Ytfmflbcmigiciaa
open Go.RowKit

theorem own_addr {w : World} {base size n c : Nat} {e : TypeId} {A : Option Addr} {xs : List Value} (h : w.ownsRow base e size (.slice A n c) n xs) (hn : 0 < n) : ∃ g, A = some ⟨g, 0, none⟩ ∧ base ≤ g := by
  rcases h.2 with ⟨h', h0⟩ | ⟨g', cap', cur, h', hb, _⟩
  · omega
  · injection h' with h1; exact ⟨g', h1, hb⟩
set_option maxHeartbeats 400000 in
theorem mclone_any (l : List Raw) (A : Option Addr) (c : Nat) (B : Nat) (w : World) (h : MR w B A l) (hB : B ≤ w.heap.size) (hl : l.length ≤ 100000) :
    Calls Try.prog 46 #[.slice A l.length c] w fun e w' => ∃ A' c', e = .returned (.slice A' l.length c') ∧ Below w.heap.size w w' ∧ l.length ≤ c' ∧ c' ≤ maxLen ∧ w'.ownsRow w.heap.size 33 3 (.slice A' l.length c') l.length (l.flatMap Raw.cs) := by
  obtain ⟨i0, hi, hz0, hz1, hz2⟩ := info_parts info33
  have h := h.more hB
  clear hB
  rcases A with _ | ad
  · have h0 : l = [] := by
      rcases Nat.eq_zero_or_pos l.length with h0 | h0
      · exact List.eq_nil_of_length_eq_zero h0
      · obtain ⟨ad, h, _⟩ := h.2 h0
        cases h
    subst h0
    clear h
    have hE : ∀ W, (binOp .eql 39 (.slice none 0 c) (.slice none 0 0)).run Try.prog W = .ok (.bool true) W := fun _ => rfl
    go_enter Try.func46, Try.ntmps46
    go_wp2
    go_ret
    exact ⟨none, 0, rfl, Below.refl _ _, Nat.le_refl _, Nat.zero_le _, rfl, .inl ⟨rfl, rfl⟩⟩
  · have H := Lib.hid h
    clear h
    have hE : ∀ W, (binOp .eql 39 (.slice (some ad) l.length c) (.slice none 0 0)).run Try.prog W = .ok (.bool false) W := fun _ => rfl
    go_enter Try.func46, Try.ntmps46
    go_wp2_with (at_builtin; refine wpList_append_any _ rfl (.tmp 5) (.tmp 6) 39 rfl w.heap.size 33 i0 _ 3 40 Try.underlying39 hi hz0 hz1 hz2 rfl (by decide) (.slice (some ⟨w.heap.size, 0, none⟩) 0 0) 0 [] rfl (World.ownsRow_made w #[] 0 (Nat.le_refl _) (Nat.zero_le _) rfl) w.heap.size (some ad) l.length c (l.flatMap Raw.cs) rfl (H.out.alloc (Nat.le_refl _) _) (raw_one l) ?c1 ?c2 ?c3 ?_)
    case c1 => simp only [maxLen]; omega
    case c2 => omega
    case c3 => simp
    intro v1 w1 hown hg hat
    obtain ⟨hb, hlt, A', c', rfl, hc1, hc2, _, HO⟩ := lit_post hown hg
    have HOO := Lib.hid HO
    clear hown hg hat HO
    go_wp2_with fail
    go_ret
    exact ⟨A', c', rfl, hb, hc1, hc2, HOO.out⟩

theorem clear_row {w : World} {base g n cap i : Nat} {xs : List Value} (h : w.ownsRow base 33 3 (.slice (some ⟨g, 0, none⟩) n cap) n xs) (hi : i ≤ n) (c : Nat) :
    ∃ w', (∀ ty, (Builtin.clear_ #[39] ty #[.slice (some ⟨g, i * 3, none⟩) (n - i) c]).run Try.prog w = .ok (.tuple #[]) w') ∧ w'.ownsRow base 33 3 (.slice (some ⟨g, 0, none⟩) i cap) i (xs.take (i * 3)) ∧ Below base w w' := by
  obtain ⟨h1, h2⟩ := h
  rcases h2 with ⟨h2, _⟩ | ⟨g', cap', cur, h2, hb, hg, hn, hcm, hcs, htk⟩
  · cases h2
  · simp only [Value.slice.injEq, Option.some.injEq, Addr.mk.injEq, and_true, true_and] at h2
    obtain ⟨rfl, rfl⟩ := h2
    have hxl : (xs.take (i * 3)).length = i * 3 := by rw [List.length_take]; omega
    have hgl : g < w.heap.size := (Array.getElem?_eq_some_iff.1 hg).1
    rcases Nat.eq_zero_or_pos (n - i) with h0 | h0
    · have hin : i = n := by omega
      subst hin
      refine ⟨w, fun ty => ?_, ⟨hxl, .inr ⟨g, cap, cur, rfl, hb, hg, hn, hcm, hcs, ?_⟩⟩, Below.refl _ _⟩
      · rw [h0]; simp [Builtin.clear_, run_underlying Try.underlying39]
      · rw [htk, List.take_of_length_le (by omega)]
    · obtain ⟨zs, hzs⟩ : ∃ zs, zs = (Builtin.zeroCells (Value.agg #[.int .i64 0, .int .i64 0, .slice none 0 0]).cells (n - i)).toList := ⟨_, rfl⟩
      have hzl : zs.length = (n - i) * 3 := by rw [hzs]; simp [Builtin.zeroCells, Value.cells]
      have hz1 : ∀ v ∈ zs, v.oneCell' = true := by
        rw [hzs]
        intro v hv
        simp only [Builtin.zeroCells, Value.cells, Array.toList_map, List.mem_map] at hv
        obtain ⟨i, _, rfl⟩ := hv
        have : i % 3 < 3 := Nat.mod_lt _ (by omega)
        change ((#[Value.int .i64 0, Value.int .i64 0, Value.slice none 0 0])[i % 3]!).oneCell' = true
        match i % 3, this with
        | 0, _ => rfl
        | 1, _ => rfl
        | 2, _ => rfl
      have hst := run_storeCells_at Try.prog g (i * 3) 33 zs 0 cur w hg (by rw [hzl, hcs]; omega) hz1
      simp only [Nat.add_zero] at hst
      obtain ⟨nw, hnw⟩ : ∃ nw, nw = (List.take (i * 3) cur.toList ++ zs ++ List.drop (i * 3 + zs.length) cur.toList).toArray := ⟨_, rfl⟩
      rw [← hnw] at hst
      refine ⟨w.setRow g nw, fun ty => ?_, ⟨hxl, .inr ⟨g, cap, nw, rfl, hb, setRow_heap w g cur _ 33 _ hg, by omega, hcm, ?_, ?_⟩⟩, ?_⟩
      · obtain ⟨k, hk⟩ : ∃ k, n - i = k + 1 := ⟨n - i - 1, by omega⟩
        rw [hzs] at hst
        rw [hk] at hst ⊢
        simp [Builtin.clear_, run_underlying Try.underlying39, hst, Result.andThen]
      · rw [hnw]
        simp only [List.size_toArray, List.length_append, List.length_take, List.length_drop, Array.length_toList]
        omega
      · rw [hnw]
        have : (cur.toList.take (i * 3)).length = i * 3 := by rw [List.length_take, Array.length_toList]; omega
        rw [List.append_assoc, List.take_append_of_le_length (by omega), List.take_of_length_le (by omega), ← htk, List.take_take]
        congr 1
        omega
      · exact (Below.refl base w).grown (row := some g) ⟨rfl, rfl, rfl, by simp, fun k _ hk => setRow_other w g k _ (fun e => hk (by simp [e]))⟩ (by omega) (fun k e => by cases e; exact hb)
theorem own_cap {w : World} {base g n cap : Nat} {xs : List Value} (h : w.ownsRow base 33 3 (.slice (some ⟨g, 0, none⟩) n cap) n xs) : n ≤ cap ∧ cap ≤ maxLen ∧ base ≤ g := by
  rcases h.2 with ⟨h', _⟩ | ⟨g', cap', cur, h', hb, _, hn, hm, _⟩
  · cases h'
  · injection h' with h1 _ h3
    simp only [Option.some.injEq, Addr.mk.injEq, and_true] at h1
    subst h1 h3
    exact ⟨hn, hm, hb⟩
theorem own_cut {w : World} {base g n k cap : Nat} {xs : List Value} (h : w.ownsRow base 33 3 (.slice (some ⟨g, 0, none⟩) n cap) n xs) (hk : k ≤ n) : w.ownsRow base 33 3 (.slice (some ⟨g, 0, none⟩) k cap) k (xs.take (k * 3)) := by
  obtain ⟨h1, h2⟩ := h
  rcases h2 with ⟨h2, _⟩ | ⟨g', cap', cur, h2, hb, hg, hn, hm, hs, ht⟩
  · cases h2
  · simp only [Value.slice.injEq, Option.some.injEq, Addr.mk.injEq, and_true, true_and] at h2
    obtain ⟨rfl, rfl⟩ := h2
    refine ⟨by rw [List.length_take]; omega, .inr ⟨g, cap, cur, rfl, hb, hg, by omega, hm, hs, ?_⟩⟩
    rw [← ht, List.take_take]
    congr 1
    omega
theorem own_widen {w : World} {base g n k cap : Nat} {xs : List Value} (h : w.ownsRow base 33 3 (.slice (some ⟨g, 0, none⟩) k cap) k xs) (hk : k ≤ n) (hn : n ≤ cap) : ∃ ys, w.ownsRow base 33 3 (.slice (some ⟨g, 0, none⟩) n cap) n ys ∧ ys.take (k * 3) = xs := by
  obtain ⟨h1, h2⟩ := h
  rcases h2 with ⟨h2, _⟩ | ⟨g', cap', cur, h2, hb, hg, _, hm, hs, ht⟩
  · cases h2
  · simp only [Value.slice.injEq, Option.some.injEq, Addr.mk.injEq, and_true, true_and] at h2
    obtain ⟨rfl, rfl⟩ := h2
    refine ⟨cur.toList.take (n * 3), ⟨by rw [List.length_take, Array.length_toList]; omega, .inr ⟨g, cap, cur, rfl, hb, hg, hn, hm, hs, rfl⟩⟩, ?_⟩
    rw [List.take_take, ← ht]
    congr 1
    omega
theorem flat_take (l : List Raw) (k : Nat) (hk : k ≤ l.length) : (l.flatMap Raw.cs).take (k * 3) = (l.take k).flatMap Raw.cs := by
  have h1 : l.flatMap Raw.cs = (l.take k).flatMap Raw.cs ++ (l.drop k).flatMap Raw.cs := by rw [← List.flatMap_append, List.take_append_drop]
  have h2 : ((l.take k).flatMap Raw.cs).length = k * 3 := by rw [flat_len Raw.cs 3 raw_len, List.length_take]; congr 1; omega
  rw [h1, List.take_append_of_le_length (by omega), List.take_of_length_le (by omega)]
theorem flat_drop (l : List Raw) (k : Nat) (hk : k ≤ l.length) : (l.flatMap Raw.cs).drop (k * 3) = (l.drop k).flatMap Raw.cs := by
  have h1 : l.flatMap Raw.cs = (l.take k).flatMap Raw.cs ++ (l.drop k).flatMap Raw.cs := by rw [← List.flatMap_append, List.take_append_drop]
  have h2 : ((l.take k).flatMap Raw.cs).length = k * 3 := by rw [flat_len Raw.cs 3 raw_len, List.length_take]; congr 1; omega
  rw [h1, List.drop_append_of_le_length (by omega), List.drop_of_length_le (by omega)]
  rfl

def delSp (g n cap k off : Nat) : List (Tmp × Rg.Spec) :=
  [(20, .is (.slice (some ⟨g, 0, none⟩) n cap)), (21, .is (.int .i64 k)), (22, .is (.slice (some ⟨g, 0, none⟩) k cap)), (23, .is (.slice (some ⟨g, 0, none⟩) n cap)), (24, .is (.int .i64 ((k : Int) + 1))), (25, .is (.slice (some ⟨g, off, none⟩) (n - (k + 1)) (cap - (k + 1))))]

set_option maxHeartbeats 2000000 in
theorem del_any (l : List Raw) (g cap k base : Nat) (w : World) (h : w.ownsRow base 33 3 (.slice (some ⟨g, 0, none⟩) l.length cap) l.length (l.flatMap Raw.cs)) (hk : k < l.length) (hl : l.length ≤ 100000) (hbase : base ≤ w.heap.size) :
    Calls Try.prog 45 #[.slice (some ⟨g, 0, none⟩) l.length cap, .int .i64 k, .int .i64 ((k : Int) + 1)] w fun e w' => e = .returned (.slice (some ⟨g, 0, none⟩) (l.length - 1) cap) ∧ Below base w w' ∧ w'.ownsRow base 33 3 (.slice (some ⟨g, 0, none⟩) (l.length - 1) cap) (l.length - 1) ((l.take k ++ l.drop (k + 1)).flatMap Raw.cs) := by
  obtain ⟨hnc, hcm, hgb⟩ := own_cap h
  unfold maxLen at hcm
  have H := Lib.hid h
  obtain ⟨off, hoff⟩ : ∃ off, off = if cap = k + 1 then 0 else (k + 1) * 3 := ⟨_, rfl⟩
  have hsl : (if cap = k + 1 then (some ⟨g, 0, none⟩ : Option Addr) else some ⟨g, (k + 1) * 3, none⟩) = some ⟨g, off, none⟩ := by rw [hoff]; split <;> rfl
  have hrd : ∀ V : World, Below w.heap.size w V → ∀ j u, ((l.drop (k + 1)).flatMap Raw.cs)[j]? = some u → V.cell? ((⟨g, off, none⟩ : Addr).add j) = some u := by
    intro V hb j u hu
    have hj : j < (l.length - (k + 1)) * 3 := by
      have := (List.getElem?_eq_some_iff.1 hu).1
      rw [flat_len Raw.cs 3 raw_len, List.length_drop] at this
      exact this
    have hc : ¬ cap = k + 1 := by omega
    rw [hoff, if_neg hc, Addr.add_lit]
    have ho := own_below0 H.out hb
    rw [← flat_drop l (k + 1) (by omega), List.getElem?_drop] at hu
    rw [ho.cellAt _ (by omega)]
    exact hu
  have HRD := Lib.hid hrd
  have HSL := Lib.hid hsl
  have HOFF := Lib.hid hoff
  obtain ⟨i0, hi, hz0, hz1, hz2⟩ := info_parts info33
  have hk0 : ((k : Int) == (k : Int) + 1) = false := by simp; omega
  have hi1 : (0 : Int) ≤ k := by omega
  have hi2 : (k : Int) + 1 ≤ l.length := by omega
  have hi3 : (l.length : Int) ≤ cap := by omega
  have hi4 : (k : Int) ≤ (k : Int) + 1 := by omega
  have hi5 : k + 1 ≤ l.length := by omega
  clear h hrd hsl hoff
  go_enter Try.func45, Try.ntmps45
  go_wp2_with fail
  clear hk0
  refine Rs.region 6 (delSp g l.length cap k off) [20, 21, 22, 23, 24, 25] rfl (by decide) (by kernel_rfl) (by kernel_rfl) (by kernel_rfl) ?_ ?_
  · intro vals V hb
    simp only [List.take_succ_cons, List.take_zero]
    refine ⟨Rs.stepL [] (by kernel_rfl) ?_, Rs.stepL [] (by kernel_rfl) ?_, Rs.stepL [20, 21] (by kernel_rfl) ?_, Rs.stepL [] (by kernel_rfl) ?_, Rs.stepL [] (by kernel_rfl) ?_, Rs.stepL [23, 24] (by kernel_rfl) ?_, trivial⟩
    · rintro -
      refine ⟨trivial, fun K hK => ?_⟩
      simp only [Rs.frm, List.foldl_cons, List.foldl_nil, Act.put, List.setIfInBounds_toArray, List.set_cons_succ, List.set_cons_zero] at hK ⊢
      have HK := Lib.hid hK
      clear hK
      go_wp2_with fail
      exact HK.out _ _ (Below.refl _ _) rfl
    · rintro -
      refine ⟨trivial, fun K hK => ?_⟩
      simp only [Rs.frm, List.foldl_cons, List.foldl_nil, Act.put, List.setIfInBounds_toArray, List.set_cons_succ, List.set_cons_zero] at hK ⊢
      have HK := Lib.hid hK
      clear hK
      go_wp2_with fail
      exact HK.out _ _ (Below.refl _ _) rfl
    · rintro ⟨h20, h21, -⟩
      have e20 : vals 20 = .slice (some ⟨g, 0, none⟩) l.length cap := h20
      have e21 : vals 21 = .int .i64 k := h21
      refine ⟨trivial, fun K hK => ?_⟩
      simp only [Rs.frm, List.foldl_cons, List.foldl_nil, Act.put, List.setIfInBounds_toArray, List.set_cons_succ, List.set_cons_zero, e20, e21] at hK ⊢
      have HK := Lib.hid hK
      clear hK
      go_wp2_with fail
      exact HK.out _ _ (Below.refl _ _) rfl
    · rintro -
      refine ⟨trivial, fun K hK => ?_⟩
      simp only [Rs.frm, List.foldl_cons, List.foldl_nil, Act.put, List.setIfInBounds_toArray, List.set_cons_succ, List.set_cons_zero] at hK ⊢
      have HK := Lib.hid hK
      clear hK
      go_wp2_with fail
      exact HK.out _ _ (Below.refl _ _) rfl
    · rintro -
      refine ⟨trivial, fun K hK => ?_⟩
      simp only [Rs.frm, List.foldl_cons, List.foldl_nil, Act.put, List.setIfInBounds_toArray, List.set_cons_succ, List.set_cons_zero] at hK ⊢
      have HK := Lib.hid hK
      clear hK
      go_wp2_with fail
      exact HK.out _ _ (Below.refl _ _) rfl
    · rintro ⟨h23, h24, -⟩
      have e23 : vals 23 = .slice (some ⟨g, 0, none⟩) l.length cap := h23
      have e24 : vals 24 = .int .i64 ((k : Int) + 1) := h24
      refine ⟨trivial, fun K hK => ?_⟩
      simp only [Rs.frm, List.foldl_cons, List.foldl_nil, Act.put, List.setIfInBounds_toArray, List.set_cons_succ, List.set_cons_zero, e23, e24] at hK ⊢
      have HK := Lib.hid hK
      clear hK
      by_cases hce : cap = k + 1
      · have ho := HOFF.out
        rw [if_pos hce] at ho
        have HO := Lib.hid ho
        clear ho
        go_wp2_with fail
        exact HK.out _ _ (Below.refl _ _) (by rw [HO.out]; exact congrArg (Value.slice (some ⟨g, 0, none⟩) (l.length - (k + 1))) (show 0 = cap - (k + 1) by omega))
      · have ho := HOFF.out
        rw [if_neg hce] at ho
        have HO := Lib.hid ho
        clear ho
        go_wp2_with fail
        exact HK.out _ _ (Below.refl _ _) (by rw [HO.out]; rfl)
  · intro vals V hb hL
    simp only [List.drop_succ_cons, List.drop_zero]
    obtain ⟨-, -, h22, -, -, h25, -⟩ := hL
    have e22 : vals 22 = .slice (some ⟨g, 0, none⟩) k cap := h22
    have e25 : vals 25 = .slice (some ⟨g, off, none⟩) (l.length - (k + 1)) (cap - (k + 1)) := h25
    simp only [Rs.frm, List.foldl_cons, List.foldl_nil, Act.put, List.setIfInBounds_toArray, List.set_cons_succ, List.set_cons_zero, e22, e25]
    have ho := own_cut (own_below0 H.out hb) (show k ≤ l.length by omega)
    rw [flat_take l k (by omega)] at ho
    have HOC := Lib.hid ho
    have HRV := Lib.hid (HRD.out V hb)
    clear ho e22 e25 h22 h25
    refine wpList_append_fits V rfl (.tmp 22) (.tmp 25) 39 rfl base 33 i0 3 Try.underlying39 hi hz1 g k cap _ rfl HOC.out ⟨g, off, none⟩ (l.length - (k + 1)) (cap - (k + 1)) ((l.drop (k + 1)).flatMap Raw.cs) rfl (by rw [flat_len Raw.cs 3 raw_len, List.length_drop]) HRV.out (raw_one _) (by omega) ?_
    intro w2 ho2 hgr2
    have hb2 : Below base w w2 := (hb.mono hbase).grown hgr2 (by have := hb.size; omega) (fun k e => by cases e; exact hgb)
    rw [show k + (l.length - (k + 1)) = l.length - 1 by omega, ← List.flatMap_append] at ho2
    obtain ⟨ys, hw, hy⟩ := own_widen ho2 (show l.length - 1 ≤ l.length by omega) hnc
    obtain ⟨w9, hcl, ho9, hb9⟩ := clear_row hw (show l.length - 1 ≤ l.length by omega) (cap - (l.length - 1))
    rw [hy] at ho9
    have HO9 := Lib.hid ho9
    have hb29 := hb2.trans hb9
    have hne : l.length - 1 ≠ cap := by omega
    obtain ⟨n1, hn1⟩ : ∃ n1, l.length = n1 + 1 := ⟨l.length - 1, by omega⟩
    have HN1 := Lib.hid hn1
    rw [show k + (l.length - (k + 1)) = l.length - 1 by omega]
    clear ho2 hw hy ho9 hgr2 hn1 hb9
    go_wp2_with fail
    go_ret
    exact ⟨rfl, hb29, HO9.out⟩
end Go.Proofs.Ytfmflbcmigiciaa
