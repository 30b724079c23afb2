/- Chapter 06, the majority: what Quorum and its reference compute. -/
import Derived.Test.YtpmkpkfkimcpjaaWalkB
namespace Go.Proofs.Ytpmkpkfkimcpjaa
open Go.RowKit

theorem info3 : (Try.prog.info? 3).map (fun i => (i.zero, i.size, i.bytes)) = some (some (.int .i64 0), 1, 8) := by kernel_rfl

theorem int_one (zs : List Int) : ∀ u ∈ zs.map (Value.int .i64), u.oneCell' = true := ints_oneCell .i64 zs

set_option maxHeartbeats 1000000 in
theorem quorum_any (n : Int) (l : List Int) (A : Option Addr) (cap : Nat) (w : World) (h : Reads w w.heap.size 1 A l.length (l.map (.int .i64))) (hl : l.length ≤ 100000)
    (hn1 : -9223372036854775808 ≤ n) (hn2 : n ≤ 9223372036854775807) :
    Calls Try.prog 15 #[.int .i64 n, .slice A l.length cap] w fun e w' => e = .returned (.bool (quorumB n l)) ∧ Below w.heap.size w w' := by
  obtain ⟨i0, hi, hz0, hz1, hz2⟩ := info_parts info3
  go_enter Try.func15, Try.ntmps15
  go_wp2
  go_loopw [5, 7, 10] (fun v x k wr => ∃ m : Nat, m ≤ l.length ∧ k = .int .i64 m ∧ Below w.heap.size w wr ∧
      wr.ownsRow w.heap.size 3 1 v (distinctIn n (l.take m)).length ((distinctIn n (l.take m)).map (.int .i64))) (fun _ _ k _ => l.length - (intOf k).toNat)
  case atStart => exact ⟨0, Nat.zero_le _, rfl, Below.refl _ _, World.ownsRow_nil _ _ _ _⟩
  case round =>
    obtain ⟨m, hm, rfl, hb, hown⟩ := hrel
    obtain ⟨D, hD⟩ : ∃ D, distinctIn n (l.take m) = D := ⟨_, rfl⟩
    rw [hD] at hown
    have hDl : D.length ≤ 100000 := by have := distinct_len n (l.take m); rw [hD] at this; simp at this; omega
    by_cases hlt : m < l.length
    · obtain ⟨b, o, rfl, hB, hc⟩ := (h.below hb).lit (by simp; omega)
      have y0 := hc m _ (by rw [List.getElem?_map, List.getElem?_eq_getElem hlt]; rfl)
      obtain ⟨x, hx⟩ : ∃ x, l[m] = x := ⟨_, rfl⟩
      rw [hx] at y0
      have hts := distinct_snoc n (l.take m) x
      rw [← hx, ← take_snoc' l m hlt, hx, hD] at hts
      have HT := Lib.hid hts
      have HD := Lib.hid hD
      obtain ⟨A2, c2, rfl, hc2, hc3⟩ := own_form hown
      have HO := Lib.hid hown
      have HR := Lib.hid (Reads.of_own hown)
      clear hx hD hown hts hc h
      by_cases hin : 1 ≤ x ∧ x ≤ n
      · obtain ⟨hx1, hx2⟩ := hin
        by_cases hmem : x ∈ D
        · have hd : decide (x ∈ D) = true := by simp [hmem]
          have HM := Lib.hid hmem
          clear hmem
          go_wp2_with (first | (go_at_call 31; refine (contains_any D A2 c2 x _ _ HR.out (by omega)).mono ?_; rintro e w' ⟨rfl, rfl⟩))
          go_roundw
          case rel => exact ⟨m + 1, by omega, by go_num, hb, by rw [HT.out, if_neg (fun hc => hc.2.2 HM.out)]; exact HO.out⟩
          case measure => simp [intOf]; omega
        · have hd : decide (x ∈ D) = false := by simp [hmem]
          have HM := Lib.hid hmem
          clear hmem
          go_wp2_with (first
            | (go_at_call 31; refine (contains_any D A2 c2 x _ _ HR.out (by omega)).mono ?_; rintro e w' ⟨rfl, rfl⟩)
            | (at_builtin; (refine wpList_append_own _ rfl (.tmp 27) (.tmp 29) 24 rfl w.heap.size 3 i0 (.int .i64 0) 1 8 Try.underlying24 hi hz0 hz1 hz2 rfl (by decide) _ D.length _ rfl (HO.out.alloc _) ⟨wr.heap.size, 0, none⟩ 1 1 [.int .i64 x] rfl rfl ?c1 ?c2 ?c3 ?c4 ?c5 ?_)))
          case c1 => intro j u hj; match j, hj with | 0, hj => (simp at hj; subst hj; simp [go_sem])
          case c2 => exact int_one [x]
          case c3 => simp only [maxLen]; omega
          case c4 => omega
          case c5 => have := hb.size; simp; omega
          intro v' w1 hown' hgrow _
          have hb' : Below w.heap.size w w1 := (hb.alloc hb.size _).grown hgrow (by have := hb.size; simp; omega) (fun k hk => (HO.out.lt k hk).1)
          have HO' := Lib.hid hown'
          clear hown' hgrow
          go_wp2
          go_roundw
          case rel =>
            refine ⟨m + 1, by omega, by go_num, hb', ?_⟩
            rw [HT.out, if_pos ⟨hx1, hx2, HM.out⟩]
            simpa using HO'.out
          case measure => simp [intOf]; omega
      · by_cases hx1 : 1 ≤ x
        all_goals
          have hx2 : ¬ (1 ≤ x ∧ x ≤ n ∧ x ∉ D) := fun hc => hin ⟨hc.1, hc.2.1⟩
          have HX := Lib.hid hx2
          first | (have hx3 : n < x := by omega) | skip
          clear hin hx2
          go_wp2_with fail
          go_roundw
          case rel => exact ⟨m + 1, by omega, by go_num, hb, by rw [HT.out, if_neg HX.out]; exact HO.out⟩
          case measure => simp [intOf]; omega
    · have hml : l.take m = l := by rw [List.take_of_length_le]; omega
      obtain ⟨A2, c2, rfl, hc2, hc3⟩ := own_form hown
      have HD := Lib.hid (show D.length = (distinctIn n l).length by rw [← hD, hml])
      clear hml hD hown h
      by_cases hn : 1 ≤ n
      all_goals
        go_wp2_with (go_at_call 13; refine (majority_any n _ hn1 hn2).mono ?_; rintro e w' ⟨rfl, rfl⟩)
        go_ret
        exact ⟨ret_bool (by unfold quorumB; rw [← HD.out]; first | (simp [hn]; done) | (simp; intro _; omega)), hb⟩

/-- The first majority of the reference: the ones that are in 1..n and did not come before. -/
theorem first_iff (n : Int) (l : List Int) (m : Nat) (x : Int) : (1 ≤ x ∧ x ≤ n ∧ x ∉ distinctIn n (l.take m)) ↔ (1 ≤ x ∧ x ≤ n ∧ x ∉ l.take m) := by
  rw [mem_distinct]
  constructor
  · rintro ⟨h1, h2, h3⟩; exact ⟨h1, h2, fun h => h3 ⟨h, h1, h2⟩⟩
  · rintro ⟨h1, h2, h3⟩; exact ⟨h1, h2, fun h => h3 h.1⟩

def firstB (n x : Int) (L : List Int) : Bool := decide (1 ≤ x ∧ x ≤ n ∧ x ∉ L)
theorem firstB_snoc (n x y : Int) (L : List Int) : firstB n x (L ++ [y]) = (firstB n x L && (y != x)) := by
  unfold firstB
  rw [Bool.eq_iff_iff]
  simp only [decide_eq_true_eq, Bool.and_eq_true, List.mem_append, List.mem_singleton, bne_iff_ne, ne_eq, not_or]
  constructor
  · rintro ⟨h1, h2, h3, h4⟩; exact ⟨⟨h1, h2, h3⟩, fun h => h4 h.symm⟩
  · rintro ⟨⟨h1, h2, h3⟩, h4⟩; exact ⟨h1, h2, h3, fun h => h4 h.symm⟩
theorem firstB_nil (n x : Int) : firstB n x [] = decide (1 ≤ x ∧ x ≤ n) := by simp [firstB]
theorem distinct_first (n : Int) (l : List Int) (m : Nat) (h : m < l.length) :
    (distinctIn n (l.take (m + 1))).length = (distinctIn n (l.take m)).length + if firstB n l[m] (l.take m) = true then 1 else 0 := by
  rw [take_snoc' l m h, distinct_snoc]
  have h1 := first_iff n l m l[m]
  unfold firstB
  simp only [decide_eq_true_eq]
  by_cases hc : 1 ≤ l[m] ∧ l[m] ≤ n ∧ l[m] ∉ l.take m
  · rw [if_pos (h1.2 hc), if_pos hc]; simp
  · rw [if_neg (fun h => hc (h1.1 h)), if_neg hc]; simp

set_option maxHeartbeats 1000000 in
theorem rquorum_any (n : Int) (l : List Int) (A : Option Addr) (cap : Nat) (w : World) (h : Reads w w.heap.size 1 A l.length (l.map (.int .i64))) (hl : l.length ≤ 100000)
    (hn1 : -9223372036854775808 ≤ n) (hn2 : n ≤ 9223372036854775807) :
    Calls Try.prog 16 #[.int .i64 n, .slice A l.length cap] w fun e w' => e = .returned (.bool (quorumB n l)) ∧ Below w.heap.size w w' := by
  by_cases hn : n < 1
  · go_enter Try.func16, Try.ntmps16
    go_wp2
    go_ret
    exact ⟨ret_bool (by unfold quorumB; simp; intro _; omega), Below.refl _ _⟩
  · go_enter Try.func16, Try.ntmps16
    go_wp2
    go_loopw [5, 6, 7, 8] (fun c i f k wr => ∃ m : Nat, m ≤ l.length ∧ i = .int .i64 m ∧ c = .int .i64 ((distinctIn n (l.take m)).length : Nat) ∧ Below w.heap.size w wr) (fun _ i _ _ _ => l.length - (intOf i).toNat)
    case atStart => exact ⟨0, Nat.zero_le _, rfl, rfl, Below.refl _ _⟩
    case round =>
      obtain ⟨m, hm, rfl, rfl, hb⟩ := hrel
      have hDl : (distinctIn n (l.take m)).length ≤ 100000 := by have := distinct_len n (l.take m); simp at this; omega
      by_cases hlt : m < l.length
      · obtain ⟨b, o, rfl, hB, hc⟩ := (h.below hb).lit (by simp; omega)
        have y0 := hc m _ (by rw [List.getElem?_map, List.getElem?_eq_getElem hlt]; rfl)
        obtain ⟨x, hx⟩ : ∃ x, l[m] = x := ⟨_, rfl⟩
        rw [hx] at y0
        have HX := Lib.hid hx
        have HC := Lib.hid hc
        clear hx hc
        have hin3 : (1 ≤ x ∧ x ≤ n) ∨ x < 1 ∨ (1 ≤ x ∧ n < x) := by omega
        rcases hin3 with ⟨hx1, hx2⟩ | hx1 | ⟨hx1, hx2⟩
        all_goals
          go_wp2
          obtain ⟨wo, rfl⟩ : ∃ wo : World, wo = wr := ⟨_, rfl⟩
          go_loopw [7, 8] (fun f k wr => ∃ j : Nat, j ≤ m ∧ k = .int .i64 j ∧ f = .bool (firstB n x (l.take j)) ∧ Below w.heap.size w wr) (fun _ k _ => m - (intOf k).toNat)
          case atStart => exact ⟨0, Nat.zero_le _, rfl, by rw [List.take_zero, firstB_nil]; simp only [Value.bool.injEq]; rw [Bool.eq_iff_iff]; simp; omega, hb⟩
          case round =>
            obtain ⟨j, hj, rfl, rfl, hb2⟩ := hrel
            by_cases hjm : j < m
            · obtain ⟨b', o', hbo, hB', hc'⟩ := (h.below hb2).lit (by simp; omega)
              simp only [Option.some.injEq, Addr.mk.injEq, and_true] at hbo
              obtain ⟨rfl, rfl⟩ := hbo
              have z0 := hc' m _ (by rw [List.getElem?_map, List.getElem?_eq_getElem hlt]; rfl)
              rw [HX.out] at z0
              have z1 := hc' j _ (by rw [List.getElem?_map, List.getElem?_eq_getElem (by omega)]; rfl)
              obtain ⟨y, hy⟩ : ∃ y, l[j] = y := ⟨_, rfl⟩
              rw [hy] at z1
              have hts := take_snoc' l j (by omega)
              rw [hy] at hts
              have HT := Lib.hid hts
              clear hc' hts hy
              go_wp2_with fail
              have HS := Lib.hid (firstB_snoc n x y (l.take j))
              cases hF : firstB n x (l.take j)
              all_goals
                have HF := Lib.hid hF
                clear hF
                go_quiet (fail)
                go_wp2_with fail
                go_roundw
                case rel => exact ⟨j + 1, by omega, by go_num, by rw [HT.out, HS.out, HF.out]; simp, below_drewN hb2 _⟩
                case measure => simp [intOf]; omega
            · obtain rfl : j = m := by omega
              have HD := Lib.hid (distinct_first n l j hlt)
              rw [HX.out] at HD
              have HH := Lib.hid h
              clear h HC
              cases hF : firstB n x (l.take j)
              all_goals
                have HF := Lib.hid hF
                clear hF
                go_wp2_with fail
                go_roundw
                case rel => exact ⟨j + 1, by omega, by go_num, by rw [HD.out, HF.out]; simp, hb2⟩
                case measure => simp [intOf]; omega
      · have hml : l.take m = l := by rw [List.take_of_length_le]; omega
        rw [hml] at hDl ⊢
        clear hml h
        go_wp2_with (go_at_call 14; refine (rmajority_any n _ hn1 hn2).mono ?_; rintro e w' ⟨rfl, rfl⟩)
        go_ret
        exact ⟨ret_bool (by unfold quorumB; simp; intro _; omega), hb⟩
end Go.Proofs.Ytpmkpkfkimcpjaa
