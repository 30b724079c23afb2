/- Chapter 14: slices.DeleteFunc on a row of the call's own. -/
import Derived.Test.YtcmidhecmhbeoaaDelA
namespace Go.Proofs.Ytcmidhecmhbeoaa
open Go.RowKit

def keepL (bad l : List Pl) : List Pl := l.filter fun x => !decide (x ∈ bad)
theorem keepL_snoc (bad l : List Pl) (x : Pl) : keepL bad (l ++ [x]) = if x ∈ bad then keepL bad l else keepL bad l ++ [x] := by
  unfold keepL
  by_cases h : x ∈ bad <;> simp [h]
theorem keepL_len (bad l : List Pl) : (keepL bad l).length ≤ l.length := List.length_filter_le _ _
theorem keepL_no {bad l : List Pl} (h : ∀ y ∈ l, y ∉ bad) : keepL bad l = l := List.filter_eq_self.2 fun x hx => by simpa using h x hx

theorem idxB_cases (l bad : List Pl) : (idxB l bad = -1 ∧ ∀ y ∈ l, y ∉ bad) ∨ ∃ m x, l[m]? = some x ∧ x ∈ bad ∧ (∀ y ∈ l.take m, y ∉ bad) ∧ idxB l bad = (m : Nat) := by
  by_cases h : ∀ y ∈ l, y ∉ bad
  · exact .inl ⟨idxB_no h, h⟩
  · have : ∃ m x, l[m]? = some x ∧ x ∈ bad ∧ ∀ y ∈ l.take m, y ∉ bad := by
      induction l with
      | nil => exact absurd (by simp) h
      | cons a l ih =>
        by_cases ha : a ∈ bad
        · exact ⟨0, a, rfl, ha, by simp⟩
        · obtain ⟨m, x, h1, h2, h3⟩ := ih (fun hh => h (by
            intro y hy
            rcases List.mem_cons.1 hy with rfl | hy
            · exact ha
            · exact hh y hy))
          refine ⟨m + 1, x, h1, h2, fun y hy => ?_⟩
          rw [List.take_succ_cons] at hy
          rcases List.mem_cons.1 hy with rfl | hy
          · exact ha
          · exact h3 y hy
    obtain ⟨m, x, h1, h2, h3⟩ := this
    exact .inr ⟨m, x, h1, h2, h3, idxB_at h1 h2 h3⟩

/-- How far the row has been gone through. -/
structure DelInv (w : World) (base : Nat) (g cap : Nat) (l bad : List Pl) (i j : Nat) (wr : World) : Prop where
  lt : i < j
  le : j ≤ l.length
  len : (keepL bad (l.take j)).length = i
  row : ∃ cl : List Pl, cl.length = l.length ∧ cl.take i = keepL bad (l.take j) ∧ cl.drop j = l.drop j ∧ wr.ownsRow base 37 2 (.slice (some ⟨g, 0, none⟩) l.length cap) l.length (cl.flatMap Pl.cs)
  below : Below base w wr

set_option maxHeartbeats 2000000 in
theorem delf_any (l bad : List Pl) (A A2 : Option Addr) (cap c2 q base : Nat) (w : World) (h : w.ownsRow base 37 2 (.slice A l.length cap) l.length (l.flatMap Pl.cs)) (hbase : base ≤ w.heap.size) (hl : l.length ≤ 100000)
    (hq : q < base) (hx : w.cell? ⟨q, 0, none⟩ = some (.slice A2 bad.length c2)) (h2 : PR w base A2 bad) (hl2 : bad.length ≤ 100000) :
    Calls Try.prog 34 #[.slice A l.length cap, .func (.func 36) #[] #[.pointer (some ⟨q, 0, none⟩)]] w fun e w' => e = .returned (.slice A (keepL bad l).length cap) ∧ Below base w w' ∧ w'.ownsRow base 37 2 (.slice A (keepL bad l).length cap) (keepL bad l).length ((keepL bad l).flatMap Pl.cs) := by
  have H := Lib.hid h
  have H2 := Lib.hid h2
  have HX := Lib.hid hx
  have CI := Lib.hid (delidx_any l bad A A2 cap c2 q w (Reads.of_own h) hl (by omega) hx (h2.more hbase) hl2)
  clear h h2 hx
  rcases idxB_cases l bad with ⟨h0, hno⟩ | ⟨m, x, hm, hxb, hno, h0⟩
  · have hk := keepL_no hno
    rw [h0] at CI
    rw [hk]
    clear h0 hno hk
    go_enter Try.func34, Try.ntmps34
    go_wp2_with fail
    refine CI.out.mono ?_
    rintro e w1 ⟨rfl, hb1⟩
    have HO := Lib.hid (own_below H.out hb1)
    have hb := hb1.mono hbase
    go_wp2_with fail
    go_ret
    exact ⟨rfl, hb, HO.out⟩
  · rw [h0] at CI
    have hml : m < l.length := (List.getElem?_eq_some_iff.1 hm).1
    obtain ⟨g, rfl, hg⟩ := own_addr H.out (by omega)
    have hgl := (H.out.lt g rfl).2
    have hqg : q ≠ g := by omega
    have hts := take_snoc? hm
    have hk1 : keepL bad (l.take (m + 1)) = l.take m := by rw [hts, keepL_snoc, if_pos hxb, keepL_no hno]
    have hi0 : DelInv w base g cap l bad m (m + 1) w := ⟨by omega, by omega, by rw [hk1]; simp; omega, ⟨l, rfl, hk1.symm, rfl, H.out⟩, Below.refl _ _⟩
    have HI0 := Lib.hid hi0
    have hm1 : ((m : Int) == -1) = false := by simp
    clear h0 hno hk1 hts hi0 hm hxb x
    go_enter Try.func34, Try.ntmps34
    go_wp2_with fail
    refine CI.out.mono ?_
    rintro e w1 ⟨rfl, hb1⟩
    go_wp2_with fail
    have hi1 : DelInv w base g cap l bad m (m + 1) w1 := by
      obtain ⟨p1, p2, p3, ⟨cl, q1, q2, q3, q4⟩, p5⟩ := HI0.out
      exact ⟨p1, p2, p3, ⟨cl, q1, q2, q3, own_below q4 hb1⟩, hb1.mono hbase⟩
    have hs1 := hb1.size
    have HI1 := Lib.hid hi1
    clear hi1 HI0 CI hb1 hm1
    go_loopw [5, 6, 7] (fun i j _ wr => ∃ ni nj : Nat, i = .int .i64 ni ∧ j = .int .i64 nj ∧ DelInv w base g cap l bad ni nj wr ∧ base ≤ wr.heap.size) (fun _ j _ _ => l.length - (intOf j).toNat)
    case atStart => exact ⟨m, m + 1, rfl, rfl, HI1.out, by omega⟩
    case round =>
      obtain ⟨ni, nj, rfl, rfl, hinv, hbs⟩ := hrel
      obtain ⟨p1, p2, p3, ⟨cl, q1, q2, q3, q4⟩, p5⟩ := hinv
      have HQ := Lib.hid q4
      have HQ1 := Lib.hid q1
      have HQ2 := Lib.hid q2
      have HQ3 := Lib.hid q3
      have HP3 := Lib.hid p3
      have hgr := (q4.lt g rfl).2
      clear q1 q2 q3 q4 p3
      by_cases hlt : nj < l.length
      · obtain ⟨b, o, yn, ys, hA, hB, hy, y0, y1⟩ := pl_elem (l := cl) (by unfold PR; rw [HQ1.out]; exact Reads.of_own HQ.out) (show nj < cl.length by rw [HQ1.out]; exact hlt)
        simp only [Option.some.injEq, Addr.mk.injEq, and_true] at hA
        obtain ⟨rfl, rfl⟩ := hA
        rw [Nat.zero_add] at y0 y1
        have hyl : l[nj]? = some ⟨yn, ys⟩ := by
          have h1 : (cl.drop nj)[0]? = (l.drop nj)[0]? := by rw [HQ3.out]
          rw [List.getElem?_drop, List.getElem?_drop, Nat.add_zero] at h1
          rw [← h1, hy]
        have hts := take_snoc? hyl
        have HTS := Lib.hid hts
        have hfz := HQ.out.frozenAt
        clear hy hyl hts
        go_wp2_with fail
        have hba : Below wr.heap.size wr (wr.alloc (.cells #[.int .i64 yn, .int .u64 ys] 37)) := (Below.refl _ _).alloc (Nat.le_refl _) _
        have hbq := p5.trans (hba.mono hbs)
        have hcq := (hbq.cell (p := ⟨q, 0, none⟩) hq).trans HX.out
        have C := Lib.hid (del1_any yn ys bad A2 c2 q (wr.alloc (.cells #[.int .i64 yn, .int .u64 ys] 37)) (by simp; omega) hcq ((H2.out.below hbq).more (by simp; omega)) hl2)
        clear y0 y1 hfz hcq
        refine C.out.mono ?_
        rintro e w5 ⟨rfl, hb5⟩
        have hbr5 : Below wr.heap.size wr w5 := hba.trans (hb5.mono hba.size)
        have hK5 := (Blk.new wr 37 #[.int .i64 yn, .int .u64 ys]).below hb5 (by simp)
        have hs5 := hbr5.size
        have hO5 := own_below HQ.out hbr5
        have hb05 := p5.trans (hbr5.mono hbs)
        clear C hb5 hbq hba
        by_cases he : (⟨yn, ys⟩ : Pl) ∈ bad
        · rw [decide_eq_true he]
          have hk2 : keepL bad (l.take (nj + 1)) = keepL bad (l.take nj) := by rw [HTS.out, keepL_snoc, if_pos he]
          have hinv : DelInv w base g cap l bad ni (nj + 1) w5 := ⟨by omega, by omega, by rw [hk2]; exact HP3.out, ⟨cl, HQ1.out, by rw [hk2]; exact HQ2.out, by rw [← List.drop_drop, ← List.drop_drop, HQ3.out], hO5⟩, hb05⟩
          have HI := Lib.hid hinv
          clear hinv hk2 hO5 hK5
          go_wp2_with fail
          go_roundw
          case rel => exact ⟨ni, nj + 1, by go_num, by go_num, HI.out, by omega⟩
          case measure => simp [intOf]; omega
        · rw [decide_eq_false he]
          have hk2 : keepL bad (l.take (nj + 1)) = keepL bad (l.take nj) ++ [⟨yn, ys⟩] := by rw [HTS.out, keepL_snoc, if_neg he]
          obtain ⟨v0, v1⟩ := blk_cell2 hK5
          have hKl := hK5.lt
          have hgf := hO5.frozenAt
          have c0 := hO5.cellAt (ni * 2) (by omega)
          have c1 := hO5.cellAt (ni * 2 + 1) (by omega)
          have f0 := flat_get Pl.cs 2 pl_len cl ni 0 (by rw [HQ1.out]; omega) (by omega)
          have f1 := flat_get Pl.cs 2 pl_len cl ni 1 (by rw [HQ1.out]; omega) (by omega)
          obtain ⟨zn, zs, hz⟩ : ∃ zn zs, cl[ni]'(by rw [HQ1.out]; omega) = ⟨zn, zs⟩ := ⟨_, _, rfl⟩
          rw [hz] at f0 f1
          rw [Nat.add_zero] at f0
          rw [f0] at c0
          rw [f1] at c1
          have s1 : w5.cell? ⟨g, ni * 2, none⟩ = some (.int .i64 zn) := c0
          have s2 : w5.cell? ⟨g, ni * 2 + 1, none⟩ = some (.int .u64 zs) := c1
          have hg5 : g < w5.heap.size := by omega
          have hK2 := Lib.hid hk2
          have HO5 := Lib.hid hO5
          clear c0 c1 f0 f1 hz hk2 hO5 hK5
          go_wp2_with fail
          have o1 := (HO5.out.stored (ni * 2) (.int .i64 yn)).1
          have o2 := (o1.stored (ni * 2 + 1) (.int .u64 ys)).1
          rw [flat_set] at o2
          have hlen := HQ1.out
          have hx0 : (cl.set ni ⟨yn, ys⟩)[ni]? = some ⟨yn, ys⟩ := List.getElem?_set_self (by omega)
          have hx1 := take_snoc? hx0
          rw [List.take_set_of_le (Nat.le_refl _), HQ2.out] at hx1
          have hinv : DelInv w base g cap l bad (ni + 1) (nj + 1) ((w5.setCell ⟨g, ni * 2, none⟩ (.int .i64 yn)).setCell ⟨g, ni * 2 + 1, none⟩ (.int .u64 ys)) :=
            ⟨by omega, by omega, by rw [hK2.out, List.length_append, HP3.out]; rfl, ⟨cl.set ni ⟨yn, ys⟩, by simpa using hlen, by rw [hx1, hK2.out], by rw [List.drop_set_of_lt (by omega), ← List.drop_drop, ← List.drop_drop, HQ3.out], o2⟩,
              (hb05.setCell (p := ⟨g, ni * 2, none⟩) hg _).setCell (p := ⟨g, ni * 2 + 1, none⟩) hg _⟩
          have HI := Lib.hid hinv
          have hsz : base ≤ ((w5.setCell ⟨g, ni * 2, none⟩ (.int .i64 yn)).setCell ⟨g, ni * 2 + 1, none⟩ (.int .u64 ys)).heap.size := by rw [size_setCell, size_setCell]; omega
          clear o1 o2 hlen hx0 hx1 hinv
          go_roundw
          case rel => exact ⟨ni + 1, nj + 1, by go_num, by go_num, HI.out, hsz⟩
          case measure => simp [intOf]; omega
      · have hnj : nj = l.length := by omega
        subst hnj
        obtain ⟨w9, hcl, ho9, hb9⟩ := clear_row HQ.out (show ni ≤ l.length by omega) (cap - ni)
        have hcap : l.length ≤ cap := by
          rcases HQ.out.2 with ⟨h', _⟩ | ⟨g', cap', cur, h', _, _, hn, _⟩
          · cases h'
          · injection h' with _ _ h3; subst h3; exact hn
        have hne : ni ≠ cap := by omega
        have hkp : keepL bad (l.take l.length) = keepL bad l := by rw [List.take_of_length_le (Nat.le_refl _)]
        have hcle : (cl.flatMap Pl.cs).take (ni * 2) = (keepL bad l).flatMap Pl.cs := by
          rw [← hkp, ← HQ2.out]
          have h1 : cl.flatMap Pl.cs = (cl.take ni).flatMap Pl.cs ++ (cl.drop ni).flatMap Pl.cs := by rw [← List.flatMap_append, List.take_append_drop]
          rw [h1, List.take_append_of_le_length (by rw [flat_len Pl.cs 2 pl_len, List.length_take, HQ1.out]; omega), List.take_of_length_le (by rw [flat_len Pl.cs 2 pl_len, List.length_take, HQ1.out]; omega)]
        have hk3 := HP3.out
        rw [hkp] at hk3
        rw [hcle] at ho9
        have HO9 := Lib.hid ho9
        have HK3 := Lib.hid hk3
        have hb99 := p5.trans hb9
        have hi0 : (0 : Int) ≤ ni := by omega
        have hin : (ni : Int) ≤ l.length := by omega
        clear ho9 hk3 hcle hkp hb9
        go_wp2_with fail
        go_ret
        rw [HK3.out]
        exact ⟨rfl, hb99, HO9.out⟩
end Go.Proofs.Ytcmidhecmhbeoaa
