/- StripeRound: the law is true at all arguments. -/
import Derived.Test.YtcmidhecmhbeoaaAwk
import Derived.Test.YtcmidhecmhbeoaaPlainC
import Derived.Test.YtcmidhecmhbeoaaWalkI
namespace Go.Proofs.Ytcmidhecmhbeoaa
open Go.RowKit

theorem longB_none {k : Nat} {W : Int} (h : longB k W [] = false) : k ≤ 30 ∧ W ≤ 1000 := by
  simp [longB] at h
  omega
theorem bits_and15 (x : Int) (h1 : 1 ≤ x) (h2 : x ≤ 15) : bits .and .i64 x 15 = x := by
  obtain ⟨n, rfl⟩ : ∃ n : Nat, x = n := ⟨x.toNat, by omega⟩
  have hn : n < 16 := by omega
  match n, hn with
  | 0, _ => omega
  | 1, _ => rfl
  | 2, _ => rfl
  | 3, _ => rfl
  | 4, _ => rfl
  | 5, _ => rfl
  | 6, _ => rfl
  | 7, _ => rfl
  | 8, _ => rfl
  | 9, _ => rfl
  | 10, _ => rfl
  | 11, _ => rfl
  | 12, _ => rfl
  | 13, _ => rfl
  | 14, _ => rfl
  | 15, _ => rfl
theorem may_node {W : Int} {l : List Pl} (h : mayL W l = true) : (W ≤ l.length ∧ l.length ≤ 5) ∧ (l.map (·.n)).Nodup ∧ ∀ x ∈ l, 1 ≤ x.n ∧ x.n ≤ 15 := by
  unfold mayL at h
  simp only [decide_eq_true_eq] at h
  obtain ⟨h1, h2, h3, h4⟩ := h
  refine ⟨⟨h1, h2⟩, h4, fun x hx => ?_⟩
  have := h3 x hx
  unfold mayPl at this
  simp at this
  omega

theorem setP_round {first n W : Int} {l : List Pl} {i : Nat} (hn : first ≤ n) (h1 : 1 ≤ W) (h2 : W ≤ l.length) : setP first l W (n + i) = round l (((n - first).toNat + i) % l.length) W.toNat := by
  unfold setP
  rw [if_neg (by omega)]
  congr 1
  obtain ⟨q, hq⟩ : ∃ q : Nat, n - first = q := ⟨(n - first).toNat, by omega⟩
  rw [show n + i - first = ((q + i : Nat) : Int) by omega, ← Int.natCast_emod, Int.toNat_natCast, hq, Int.toNat_natCast]
theorem ramong_val (v k : Nat) (s fr : List Pl) (hk : s.length = k) (hv : among s fr = v) (A A2 : Option Addr) (cap cap2 : Nat) (w : World) (h : Reads w w.heap.size 2 A k (s.flatMap Pl.cs)) (h2 : PR w w.heap.size A2 fr) (hl : k ≤ 100000) (hl2 : fr.length ≤ 100000) :
    Calls Try.prog 19 #[.slice A k cap, .slice A2 fr.length cap2] w fun e w' => e = .returned (.int .i64 v) ∧ Below w.heap.size w w' := by
  subst hk hv
  exact ramong_any s fr A A2 cap cap2 _ w h h2 (Nat.le_refl _) hl hl2
theorem set_own (L : List Pl) (k : Nat) (hk : L.length = k) (first n W : Int) (l : List Pl) (A : Option Addr) (m c g o k1 : Nat) (w : World) (hm : l.length = m) (hf : FC w g o first A m c) (hp : PR w w.heap.size A l) (hg : g < w.heap.size) (hl : l.length ≤ 100000)
    (hn0 : 0 ≤ first) (hn1 : n ≤ 18446744073709551615) (hL : setP first l W n = L) :
    Calls Try.prog 18 #[.slice (some ⟨g, o, none⟩) 1 k1, .int .i64 W, .int .u64 n] w fun e w' => ∃ A' c', e = .returned (.slice A' k c') ∧ Below w.heap.size w w' ∧ k ≤ c' ∧ c' ≤ maxLen ∧ w'.ownsRow w.heap.size 37 2 (.slice A' k c') k (L.flatMap Pl.cs) := by
  subst hm hk hL
  exact set_any first n W l A c g o k1 w hf hp hg hl hn0 hn1

set_option maxRecDepth 100000 in
set_option maxHeartbeats 4000000 in
theorem lawRound_any (first W n : Int) (l : List Pl) (A : Option Addr) (c : Nat) (w : World) (h : PR w w.heap.size A l) (hf0 : 0 ≤ first) :
    Calls Try.prog 6 #[.agg #[.int .u64 first, .slice A l.length c], .int .i64 W, .int .u64 n] w fun e w' => e = .returned (.bool true) ∧ Below w.heap.size w w' := by
  have H := Lib.hid h
  clear h
  obtain ⟨W0, hW0⟩ : ∃ W0, W0 = (w.alloc (.cells #[.int .u64 first, .slice A l.length c] 25)).alloc (.cells #[.int .u64 first, .slice A l.length c] 25) := ⟨_, rfl⟩
  have hb0 : Below w.heap.size w W0 := by rw [hW0]; exact ((Below.refl _ _).alloc (Nat.le_refl _) _).alloc (by simp) _
  have hF : Blk W0 w.heap.size 25 #[.int .u64 first, .slice A l.length c] := by rw [hW0]; exact (Blk.new _ _ _).alloc _
  have hG : Blk W0 (w.heap.size + 1) 25 #[.int .u64 first, .slice A l.length c] := by rw [hW0]; exact blk_newAt (by simp) _ _
  have CL : Hid (Calls Try.prog 10 #[.slice (some ⟨w.heap.size + 1, 0, none⟩) 1 1, .int .i64 W, .slice none 0 0] W0 fun e w' => e = .returned (.bool (longB l.length W [])) ∧ W0 = w') :=
    Lib.hid (long_any first W A _ l.length c _ 0 1 0 [] W0.heap.size W0 (FC.of_blk hG) Reads.none_ (by simp) (by simp))
  have HW0 := Lib.hid hW0
  have HF := Lib.hid hF
  have hFl := hF.lt
  have hend : ∀ w2, Below W0.heap.size W0 w2 → Below w.heap.size w w2 := fun w2 hb => hb0.trans (hb.mono hb0.size)
  have HE := Lib.hid hend
  have HP := Lib.hid ((H.out.below hb0).more hb0.size)
  have f0 := hF.cell 0
  have f1 := hF.cell 1
  clear hG hend hF hW0
  by_cases hlb : longB l.length W [] = true
  · rw [hlb] at CL
    clear hlb
    go_enter Try.func6, Try.ntmps6
    go_wp2_with fail
    rw [← HW0.out]
    refine CL.out.mono ?_
    rintro e w1 ⟨rfl, rfl⟩
    go_wp2_with fail
    refine (awake_any _).mono ?_
    rintro e w8 ⟨rfl, hb12⟩
    go_wp2_with fail
    go_ret
    exact ⟨rfl, HE.out _ hb12⟩
  · have hlf := (Bool.not_eq_true _).mp hlb
    rw [hlf] at CL
    obtain ⟨hl, hw2⟩ := longB_none hlf
    clear hlf hlb
    by_cases hw1 : W < 1
    · have d1 : decide (W < 1) = true := decide_eq_true hw1
      go_enter Try.func6, Try.ntmps6
      go_wp2_with fail
      rw [← HW0.out]
      refine CL.out.mono ?_
      rintro e w1 ⟨rfl, rfl⟩
      go_wp2_with fail
      refine (awake_any _).mono ?_
      rintro e w8 ⟨rfl, hb12⟩
      go_wp2_with fail
      go_ret
      exact ⟨rfl, HE.out _ hb12⟩
    · have d1 : decide (W < 1) = false := decide_eq_false hw1
      have CM : Hid (Calls Try.prog 16 #[.int .i64 W, .slice (some ⟨W0.heap.size, 0, none⟩) 1 1] (W0.alloc (.cells #[.int .u64 1, .slice A l.length c] 25)) fun e w' => e = .returned (.bool (mayL W l)) ∧ Below (W0.heap.size + 1) (W0.alloc (.cells #[.int .u64 1, .slice A l.length c] 25)) w') :=
        Lib.hid (by have := mayFrags_any W l A c _ 0 1 (W0.alloc (.cells #[.int .u64 1, .slice A l.length c] 25)) (FC.of_blk (Blk.new _ _ _)) (by simp) ((HP.out.alloc (Nat.le_refl _) _).more (by simp)) (by omega); rwa [World.size_alloc] at this)
      by_cases hml : ¬ mayL W l = true
      · rw [(Bool.not_eq_true _).mp hml] at CM
        clear hml
        go_enter Try.func6, Try.ntmps6
        go_wp2_with fail
        rw [← HW0.out]
        refine CL.out.mono ?_
        rintro e w1 ⟨rfl, rfl⟩
        go_wp2_with fail
        refine CM.out.mono ?_
        rintro e wd ⟨rfl, hbd⟩
        have hbe : Below W0.heap.size W0 wd := ((Below.refl W0.heap.size W0).alloc (Nat.le_refl _) _).trans (hbd.mono (by simp))
        have HF4 := HF.out.below hbe hFl
        have g0 := HF4.cell 0
        have g1 := HF4.cell 1
        clear hbd HF4 f0 f1
        go_wp2_with fail
        refine (awake_any _).mono ?_
        rintro e w8 ⟨rfl, hb12⟩
        go_wp2_with fail
        go_ret
        exact ⟨rfl, HE.out _ (hbe.trans (hb12.mono hbe.size))⟩
      · have hmt : mayL W l = true := by simpa using hml
        rw [hmt] at CM
        obtain ⟨⟨hWl, hl5⟩, hnd, hnod⟩ := may_node hmt
        have HND := Lib.hid hnd
        have HNOD := Lib.hid hnod
        have HMT := Lib.hid hmt
        clear hml hmt hnd hnod
        by_cases hnf : n < first
        · have d2 : decide (n < first) = true := decide_eq_true hnf
          go_enter Try.func6, Try.ntmps6
          go_wp2_with fail
          rw [← HW0.out]
          refine CL.out.mono ?_
          rintro e w1 ⟨rfl, rfl⟩
          go_wp2_with fail
          refine CM.out.mono ?_
          rintro e wd ⟨rfl, hbd⟩
          have hbe : Below W0.heap.size W0 wd := ((Below.refl W0.heap.size W0).alloc (Nat.le_refl _) _).trans (hbd.mono (by simp))
          have HF4 := HF.out.below hbe hFl
          have g0 := HF4.cell 0
          have g1 := HF4.cell 1
          clear hbd HF4 f0 f1
          go_wp2_with fail
          refine (awake_any _).mono ?_
          rintro e w8 ⟨rfl, hb12⟩
          go_wp2_with fail
          go_ret
          exact ⟨rfl, HE.out _ (hbe.trans (hb12.mono hbe.size))⟩
        · have d2 : decide (n < first) = false := decide_eq_false hnf
          by_cases hnn : 1152921504606846976 < n
          · have d3 : decide (1152921504606846976 < n) = true := decide_eq_true hnn
            go_enter Try.func6, Try.ntmps6
            go_wp2_with fail
            rw [← HW0.out]
            refine CL.out.mono ?_
            rintro e w1 ⟨rfl, rfl⟩
            go_wp2_with fail
            refine CM.out.mono ?_
            rintro e wd ⟨rfl, hbd⟩
            have hbe : Below W0.heap.size W0 wd := ((Below.refl W0.heap.size W0).alloc (Nat.le_refl _) _).trans (hbd.mono (by simp))
            have HF4 := HF.out.below hbe hFl
            have g0 := HF4.cell 0
            have g1 := HF4.cell 1
            clear hbd HF4 f0 f1
            go_wp2_with fail
            refine (awake_any _).mono ?_
            rintro e w8 ⟨rfl, hb12⟩
            go_wp2_with fail
            go_ret
            exact ⟨rfl, HE.out _ (hbe.trans (hb12.mono hbe.size))⟩
          · have d3 : decide (1152921504606846976 < n) = false := decide_eq_false hnn
            go_enter Try.func6, Try.ntmps6
            go_wp2_with fail
            rw [← HW0.out]
            refine CL.out.mono ?_
            rintro e w1 ⟨rfl, rfl⟩
            go_wp2_with fail
            refine CM.out.mono ?_
            rintro e wd ⟨rfl, hbd⟩
            have hbe : Below W0.heap.size W0 wd := ((Below.refl W0.heap.size W0).alloc (Nat.le_refl _) _).trans (hbd.mono (by simp))
            have HF4 := HF.out.below hbe hFl
            have g0 := HF4.cell 0
            have g1 := HF4.cell 1
            clear hbd HF4 f0 f1
            have m0 := (HF.out.below hbe hFl).lt
            clear CL CM HW0 d1 d2 d3
            have hsetq : ∀ i : Nat, setP first l W (n + i) = round l (((n - first).toNat + i) % l.length) W.toNat := fun i => setP_round (by omega) (by omega) hWl
            obtain ⟨m, rfl⟩ : ∃ m : Nat, W = m := ⟨W.toNat, by omega⟩
            rw [Int.toNat_natCast] at hsetq
            obtain ⟨q, hq⟩ : ∃ q : Nat, (n - first).toNat = q := ⟨_, rfl⟩
            rw [hq] at hsetq
            have HSQ := Lib.hid hsetq
            clear hsetq hq
            go_wp2_with fail
            obtain ⟨W3, hW3⟩ : ∃ W3, W3 = (wd.alloc (Obj.cells #[Value.int IntKind.u64 first, Value.slice A l.length c] 25)).alloc (Obj.cells (cntA []) 42) := ⟨_, rfl⟩
            have hb3 : Below wd.heap.size wd W3 := by rw [hW3]; exact ((Below.refl _ _).alloc (Nat.le_refl _) _).alloc (by simp) _
            have hG3 : Blk W3 wd.heap.size 25 #[.int .u64 first, .slice A l.length c] := by rw [hW3]; exact (Blk.new _ _ _).alloc _
            have hC3 : Blk W3 (wd.heap.size + 1) 42 (cntA []) := by rw [hW3]; exact blk_newAt (by simp) _ _
            rw [cntA_nil] at hW3
            rw [← hW3]
            have hb03 := hbe.trans (hb3.mono hbe.size)
            have hs3 : W3.heap.size = wd.heap.size + 1 + 1 := by rw [hW3]; simp
            have HG3 := Lib.hid hG3
            have HC3 := Lib.hid hC3
            have HP3 := Lib.hid ((H.out.below (HE.out _ hb03)).more (HE.out _ hb03).size)
            have HF3 := Lib.hid (HF.out.below hb03 hFl)
            clear hW3 hG3 hC3 g0 g1 hb3
            go_loopw [10, 11, 12] (fun i _ _ wr => ∃ t : Nat, t ≤ l.length ∧ i = .int .u64 t ∧ Below (wd.heap.size + 1) W3 wr ∧ Blk wr (wd.heap.size + 1) 42 (cntA (rounds l q m t))) (fun i _ _ _ => l.length - (intOf i).toNat)
            case atStart => exact ⟨0, Nat.zero_le _, rfl, Below.refl _ _, HC3.out⟩
            case round =>
              obtain ⟨t, ht, rfl, hbr, hC⟩ := hrel
              have hsr := hbr.size
              have HC := Lib.hid hC
              have hCl := hC.lt
              clear hC
              by_cases hlt : t < l.length
              · have HPr : Hid (PR wr wr.heap.size A l) := Lib.hid (((H.out.below (HE.out _ hb03)).below ((hbr.mono (show w.heap.size ≤ wd.heap.size + 1 by omega)))).more (by have := hb0.size; have := hbe.size; omega))
                have HGr := Lib.hid (HG3.out.below hbr (by omega))
                have hGl := HGr.out.lt
                have hnd : n + t ≤ 18446744073709551615 := by omega
                go_wp2_with fail
                refine (set_own (round l ((q + t) % l.length) m) m (round_len _ _ _) first (n + t) m l A l.length c wd.heap.size 0 1 wr rfl (FC.of_blk HGr.out) HPr.out hGl (by omega) hf0 hnd (HSQ.out t)).mono ?_
                rintro e w5 ⟨A5, c5, rfl, hb5, hc51, hc52, ho5⟩
                have HO5 := Lib.hid ho5
                have HC5 := Lib.hid (HC.out.below hb5 hCl)
                have hbr5 := hbr.trans (hb5.mono (by omega))
                have hP5 := Lib.hid ((HPr.out.below hb5).more hb5.size)
                have hF5 := (HF3.out.below hbr5 (by omega))
                have g0 := hF5.cell 0
                have g1 := hF5.cell 1
                clear ho5 hF5 hnd
                go_wp2_with fail
                refine (ramong_val m m (round l ((q + t) % l.length) m) l (round_len _ _ _) (among_round (nodup_of_nodes HND.out) (by omega) (by omega)) A5 A c5 c _ (Reads.of_own HO5.out) hP5.out (by omega) (by omega)).mono ?_
                rintro e w6 ⟨rfl, hb6⟩
                have HO6 := Lib.hid (own_below HO5.out hb6)
                have hbr6 := hbr5.trans (hb6.mono (by have := hb5.size; omega))
                have HC6 := Lib.hid (HC5.out.below hb6 HC5.out.lt)
                clear g0 g1
                go_wp2_with fail
                obtain ⟨R, hR⟩ : ∃ R, round l ((q + t) % l.length) m = R := ⟨_, rfl⟩
                have hRl : R.length = m := by rw [← hR]; exact round_len _ _ _
                have hRn : ∀ x ∈ R, 1 ≤ x.n ∧ x.n ≤ 15 := fun x hx => HNOD.out x (round_sub (by omega) x (by rw [hR]; exact hx))
                have hRs : rounds l q m (t + 1) = rounds l q m t ++ R := by rw [rounds_succ, hR]
                have hLl : (rounds l q m t).length ≤ 25 := by
                  rw [rounds_len]
                  have h1 : t * m ≤ 5 * 5 := Nat.mul_le_mul (by omega) (by omega)
                  omega
                rw [hR] at HO6
                have HRN := Lib.hid hRn
                have HRS := Lib.hid hRs
                have HRL := Lib.hid hRl
                have hwb : wd.heap.size + 1 < wr.heap.size := hCl
                generalize hB : wr.heap.size = Bs at HO6 hwb
                clear hR hRn hRs hRl HO5 HC5 hP5 HGr HPr HC hb5 hb6 hbr5 hbr hsr hCl hGl hB
                go_loopw [12] (fun k wi => ∃ j : Nat, j ≤ m ∧ k = .int .i64 j ∧ Below (wd.heap.size + 1) W3 wi ∧ Blk wi (wd.heap.size + 1) 42 (cntA (rounds l q m t ++ R.take j)) ∧ wi.ownsRow Bs 37 2 (.slice A5 m c5) m (R.flatMap Pl.cs)) (fun k _ => m - (intOf k).toNat)
                case atStart => exact ⟨0, Nat.zero_le _, rfl, hbr6, by simpa using HC6.out, HO6.out⟩
                case round =>
                  obtain ⟨j, hj, rfl, hbi, hCi, hOi⟩ := hrel
                  clear HC6 HO6 hbr6
                  have HOi := Lib.hid hOi
                  have HCi := Lib.hid hCi
                  have hCil := hCi.lt
                  have hCif := hCi.frozen
                  clear hOi hCi
                  by_cases hltj : j < m
                  · obtain ⟨b, o, yn, ys, rfl, hBb, hy, y0, y1⟩ := pl_elem (l := R) (A := A5) (by unfold PR; rw [HRL.out]; exact Reads.of_own HOi.out) (show j < R.length by rw [HRL.out]; exact hltj)
                    have hyn : 1 ≤ yn ∧ yn ≤ 15 := HRN.out _ (List.mem_of_getElem? hy)
                    obtain ⟨nn, rfl⟩ : ∃ nn : Nat, yn = nn := ⟨yn.toNat, by omega⟩
                    have hAnd := bits_and15 nn hyn.1 hyn.2
                    have hoc := occ_le (rounds l q m t ++ R.take j) nn
                    have hcc : wr.cell? ⟨wd.heap.size + 1, nn, none⟩ = some (.int .i64 (occ (rounds l q m t ++ R.take j) nn : Nat)) := (HCi.out.cell nn).trans (cntA_get _ _ (by omega))
                    have hsn := cntA_snoc (rounds l q m t ++ R.take j) ⟨nn, ys⟩ nn rfl
                    have htk := take_snoc? hy
                    rw [List.append_assoc, ← htk] at hsn
                    have HSN := Lib.hid hsn
                    have hocc : (occ (rounds l q m t ++ R.take j) nn : Int) ≤ 1000 := by
                      have h1 : (rounds l q m t ++ R.take j).length ≤ 100 := by
                        rw [List.length_append]
                        have := List.length_take_le j R
                        have := HRL.out
                        omega
                      omega
                    have hocc0 : (0 : Int) ≤ (occ (rounds l q m t ++ R.take j) nn : Int) := by omega
                    generalize occ (rounds l q m t ++ R.take j) nn = oc at hcc hocc hocc0 HSN
                    have hbb : b < wr.heap.size := hBb
                    clear hy hsn htk hoc
                    go_wp2_with fail
                    have hb9 := hbi.setCell (p := ⟨wd.heap.size + 1, nn, none⟩) (Nat.le_refl _) (.int .i64 (oc + 1))
                    have ho9 := ownsRow_setCell_below HOi.out (a := ⟨wd.heap.size + 1, nn, none⟩) hwb (.int .i64 (oc + 1))
                    have hc9 := HCi.out.set_ nn (.int .i64 (oc + 1))
                    rw [← HSN.out] at hc9
                    have HC9 := Lib.hid hc9
                    have HO9 := Lib.hid ho9
                    clear hc9 ho9
                    go_roundw
                    case rel => exact ⟨j + 1, by omega, by go_num, hb9, HC9.out, HO9.out⟩
                    case measure => simp [intOf]; omega
                  · have hjm : j = m := by omega
                    subst hjm
                    have htk : R.take j = R := List.take_of_length_le (by rw [HRL.out]; exact Nat.le_refl _)
                    have hCt := HCi.out
                    rw [htk, ← HRS.out] at hCt
                    have HCt := Lib.hid hCt
                    clear htk hCt hCil hCif
                    go_wp2_with fail
                    go_roundw
                    case rel => exact ⟨t + 1, by omega, by go_num, hbi, HCt.out⟩
                    case measure => simp [intOf]; omega
              · have htl : t = l.length := by omega
                subst htl
                have HPr : Hid (PR wr wr.heap.size A l) := Lib.hid (((H.out.below (HE.out _ hb03)).below ((hbr.mono (show w.heap.size ≤ wd.heap.size + 1 by omega)))).more (by have := hb0.size; have := hbe.size; omega))
                have HGr := Lib.hid (HG3.out.below hbr (by omega))
                have hGl := HGr.out.lt
                have hFr := HF3.out.below hbr (by omega)
                have g0 := hFr.cell 0
                have g1 := hFr.cell 1
                clear hFr
                have hOC : ∀ j (hj : j < l.length), occ (rounds l q m l.length) l[j].n = m := fun j hj => occ_rounds HND.out hl5 (by omega) hj
                have HOC := Lib.hid hOC
                clear hOC
                go_wp2_with fail
                go_loop [13] (fun k => ∃ j : Nat, j ≤ l.length ∧ k = .int .i64 j) (fun k => l.length - (intOf k).toNat)
                case atStart => exact ⟨0, Nat.zero_le _, rfl⟩
                case round =>
                  obtain ⟨j, hj, rfl⟩ := hrel
                  by_cases hltj : j < l.length
                  · obtain ⟨b, o, yn, ys, rfl, hBb, hy, y0, y1⟩ := pl_elem HPr.out hltj
                    have hyn : 1 ≤ yn ∧ yn ≤ 15 := HNOD.out _ (List.mem_of_getElem? hy)
                    obtain ⟨nn, rfl⟩ : ∃ nn : Nat, yn = nn := ⟨yn.toNat, by omega⟩
                    have hAnd := bits_and15 nn hyn.1 hyn.2
                    have hyj : l[j].n = nn := by
                      have := (List.getElem?_eq_some_iff.1 hy).2
                      rw [this]
                    have hoc := HOC.out j hltj
                    rw [hyj] at hoc
                    have hcc : wr.cell? ⟨wd.heap.size + 1, nn, none⟩ = some (.int .i64 (occ (rounds l q m l.length) nn : Nat)) := (HC.out.cell nn).trans (cntA_get _ _ (by omega))
                    rw [hoc] at hcc
                    clear hy hoc hyj
                    go_wp2_with fail
                    go_round
                    case rel => exact ⟨j + 1, by omega, by go_num⟩
                    case measure => simp [intOf]; omega
                  · have hlen0 := HSQ.out 0
                    have hlen1 := HSQ.out l.length
                    have hmod : (q + l.length) % l.length = (q + 0) % l.length := by simp
                    rw [hmod] at hlen1
                    obtain ⟨R, hR⟩ : ∃ R, round l ((q + 0) % l.length) m = R := ⟨_, rfl⟩
                    have hRl : R.length = m := by rw [← hR]; exact round_len _ _ _
                    rw [hR] at hlen0 hlen1
                    rw [show n + ((0 : Nat) : Int) = n by simp] at hlen0
                    have HL0 := Lib.hid hlen0
                    have HL1 := Lib.hid hlen1
                    have HRL := Lib.hid hRl
                    clear hlen0 hlen1 hmod hR hRl g0 g1
                    have hn64 : n ≤ 18446744073709551615 := by omega
                    have hn65 : n + l.length ≤ 18446744073709551615 := by omega
                    have g0 := (HF3.out.below hbr (by omega)).cell 0
                    have g1 := (HF3.out.below hbr (by omega)).cell 1
                    go_wp2_with fail
                    refine (set_own R m HRL.out first n m l A l.length c wd.heap.size 0 1 wr rfl (FC.of_blk HGr.out) HPr.out hGl (by omega) hf0 hn64 HL0.out).mono ?_
                    rintro e w5 ⟨A5, c5, rfl, hb5, hc51, hc52, ho5⟩
                    have HO5 := Lib.hid ho5
                    have HG5 := Lib.hid (HGr.out.below hb5 hGl)
                    have HP5 := Lib.hid ((HPr.out.below hb5).more hb5.size)
                    clear ho5 g0 g1
                    go_wp2_with fail
                    refine (set_own R m HRL.out first (n + l.length) m l A l.length c wd.heap.size 0 1 w5 rfl (FC.of_blk HG5.out) HP5.out HG5.out.lt (by omega) hf0 hn65 HL1.out).mono ?_
                    rintro e w6 ⟨A6, c6, rfl, hb6, hc61, hc62, ho6⟩
                    have HO6 := Lib.hid ho6
                    have HO5' := Lib.hid (own_below HO5.out hb6)
                    clear ho6
                    go_wp2_with fail
                    refine (same_yes R m HRL.out A5 A6 c5 c6 w6 (Reads.of_own HO5'.out) (Reads.of_own HO6.out) (by have := HRL.out; omega)).mono ?_
                    rintro e w7 ⟨rfl, hb7⟩
                    go_wp2_with fail
                    refine (awake_any _).mono ?_
                    rintro e w8 ⟨rfl, hb8⟩
                    go_wp2_with fail
                    go_ret
                    have ha := hb5.trans ((hb6.trans ((hb7.trans (hb8.mono hb7.size)).mono hb6.size)).mono hb5.size)
                    have hb := (hbr.mono (show wd.heap.size ≤ wd.heap.size + 1 by omega)).trans (ha.mono (by omega))
                    exact ⟨rfl, (HE.out _ hb03).trans (hb.mono (by have := hb0.size; have := hbe.size; omega))⟩
end Go.Proofs.Ytcmidhecmhbeoaa
