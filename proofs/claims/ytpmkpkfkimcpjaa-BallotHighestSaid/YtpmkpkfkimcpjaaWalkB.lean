/- Chapter 06, what the functions with loops compute: the greatest of a row, the next ballot, which nodes are a majority. -/
import Derived.Test.YtpmkpkfkimcpjaaWalkA
namespace Go.Proofs.Ytpmkpkfkimcpjaa
open Go.RowKit

set_option maxHeartbeats 1000000 in
theorem greatest_any (l : List Bal) (A : Option Addr) (cap : Nat) (w : World) (h : Reads w w.heap.size 3 A l.length (l.flatMap Bal.cs)) (hl : l.length ≤ 100000) :
    Calls Try.prog 29 #[.slice A l.length cap, .func (.func 17) #[] #[]] w fun e w' => e = .returned (.tuple #[.agg #[.int .u64 (great l).r, .int .i64 (great l).n, .int .u64 (great l).i], .bool (!l.isEmpty)]) ∧ Below w.heap.size w w' := by
  go_enter Try.func29, Try.ntmps29
  go_wp2
  go_loopw [5, 6, 7, 10] (fun ok i y k wr => ∃ m : Nat, m ≤ l.length ∧ k = .int .i64 m ∧ ok = .bool (!(l.take m).isEmpty) ∧ Blk wr w.heap.size 27 (great (l.take m)).cs.toArray ∧ Below w.heap.size w wr) (fun _ _ _ k _ => l.length - (intOf k).toNat)
  case atStart => exact ⟨0, Nat.zero_le _, rfl, rfl, Blk.new _ _ _, (Below.refl _ _).alloc (Nat.le_refl _) _⟩
  case round =>
    obtain ⟨m, hm, rfl, rfl, hk, hb⟩ := hrel
    have hlt2 := hk.lt
    have hf := fun i => hk.frozen i
    obtain ⟨xr, xn, xi, hx⟩ : ∃ a b c, great (l.take m) = ⟨a, b, c⟩ := ⟨_, _, _, rfl⟩
    rw [balcs_eq hx] at hk
    have c0 := hk.cell 0
    have c1 := hk.cell 1
    have c2 := hk.cell 2
    simp at c0 c1 c2
    by_cases hlt : m < l.length
    · obtain ⟨b, o, rfl, hB, hc⟩ := (h.below hb).elem balcs_len hlt (by omega)
      obtain ⟨yr, yn, yi, hy⟩ : ∃ a b c, l[m] = ⟨a, b, c⟩ := ⟨_, _, _, rfl⟩
      rw [hy] at hc
      have y0 := hc 0 _ (by omega) rfl
      have y1 := hc 1 _ (by omega) rfl
      have y2 := hc 2 _ (by omega) rfl
      rw [Nat.add_zero] at y0
      have hts := take_snoc' l m hlt
      rw [hy] at hts
      have HT := Lib.hid hts
      have HX := Lib.hid hx
      have HY := Lib.hid hy
      have HK := Lib.hid hk
      clear hx hy hk h hts hc
      have hne : (!(l.take (m + 1)).isEmpty) = true := by rw [HT.out]; simp
      have HNE := Lib.hid hne
      clear hne
      by_cases h0 : m = 0
      · have h0' : ((m : Int) == 0) = true := by simp [h0]
        have hg : great (l.take (m + 1)) = ⟨yr, yn, yi⟩ := by rw [HT.out]; exact great_snoc_yes _ _ (.inl (by rw [h0]; rfl))
        have HG := Lib.hid hg
        clear h0 hg
        go_wp2_with fail
        go_roundw
        case rel =>
          refine ⟨m + 1, by omega, by go_num, by rw [HNE.out], ?_, ?_⟩
          · rw [balcs_eq HG.out]; exact (blk_set3 HK.out _ _ _).alloc _
          · exact below_set3_alloc hb (Nat.le_refl _) hb.size _ _ _ _
        case measure => simp [intOf]; omega
      · have h0' : ((m : Int) == 0) = false := by simp [h0]
        have hne : l.take m ≠ [] := by
          intro hc
          rcases List.take_eq_nil_iff.1 hc with hc | hc
          · exact h0 hc
          · rw [hc] at hlt; simp at hlt
        have H0 := Lib.hid h0
        clear h0
        go_wp2_with fail
        refine (cmp_any xr xn xi yr yn yi _).mono ?_
        rintro e w1 ⟨rfl, hb1⟩
        obtain ⟨hc1, hf1⟩ := bcell hb1
        have hz1 := hb1.size
        have HK1 := Lib.hid ((HK.out.alloc (Obj.cells #[Value.int IntKind.u64 yr, Value.int IntKind.i64 yn, Value.int IntKind.u64 yi] 27)).below hb1 (by simp; omega))
        have hbb := (hb.alloc hb.size (Obj.cells #[Value.int IntKind.u64 yr, Value.int IntKind.i64 yn, Value.int IntKind.u64 yi] 27)).trans (hb1.mono (by simp; omega))
        go_wp2_with fail
        · have hcc : cmpB { r := xr, n := xn, i := xi } { r := yr, n := yn, i := yi } < 0 := by assumption
          go_roundw
          case rel =>
            refine ⟨m + 1, by omega, by go_num, by rw [HNE.out], ?_, ?_⟩
            · rw [balcs_eq (show great (l.take (m + 1)) = ⟨yr, yn, yi⟩ by rw [HT.out]; exact great_snoc_yes _ _ (.inr (by rw [HX.out]; exact hcc)))]; exact blk_set3 HK1.out _ _ _
            · exact below_set3 hbb (Nat.le_refl _) _ _ _
          case measure => simp [intOf]; omega
        · have hcc : 0 ≤ cmpB { r := xr, n := xn, i := xi } { r := yr, n := yn, i := yi } := by assumption
          go_roundw
          case rel =>
            refine ⟨m + 1, by omega, by go_num, by rw [HNE.out]; simpa using hne, ?_, hbb⟩
            rw [balcs_eq (show great (l.take (m + 1)) = ⟨xr, xn, xi⟩ by rw [HT.out]; exact (great_snoc_no _ _ hne (by rw [HX.out]; omega)).trans HX.out)]; exact HK1.out
          case measure => simp [intOf]; omega
    · have hml : m = l.length := by omega
      have hx' : great l = ⟨xr, xn, xi⟩ := by rw [← hx, hml, List.take_length]
      have HX := Lib.hid hx'
      have ht : (!(l.take m).isEmpty) = !l.isEmpty := by rw [hml, List.take_length]
      have HT := Lib.hid ht
      have HK := Lib.hid hk
      clear hx hml ht hx' hk h
      go_wp2
      have hz : w.heap.size < wr.heap.size := hlt2
      refine bodyPost_ret (v := .tuple #[.agg #[.int .u64 xr, .int .i64 xn, .int .u64 xi], .bool (!(l.take m).isEmpty)]) (by simp [results, Try.results29, go_sem, c0, c1, c2]) rfl ⟨by rw [HX.out, HT.out], ?_⟩
      exact below_set3 hb (Nat.le_refl _) _ _ _

set_option maxHeartbeats 400000 in
theorem idx_any (l : List Int) (A : Option Addr) (cap : Nat) (x : Int) (B : Nat) (w : World) (h : Reads w B 1 A l.length (l.map (.int .i64))) (hl : l.length ≤ 1000000) :
    Calls Try.prog 38 #[.slice A l.length cap, .int .i64 x] w fun e w' => e = .returned (.int .i64 (idxI l x)) ∧ w = w' := by
  go_enter Try.func38, Try.ntmps38
  go_wp2
  go_loop [5, 8] (fun i k => ∃ m : Nat, m ≤ l.length ∧ k = .int .i64 m ∧ x ∉ l.take m) (fun _ k => l.length - (intOf k).toNat)
  case atStart => exact ⟨0, Nat.zero_le _, rfl, by simp⟩
  case round =>
    obtain ⟨m, hm, rfl, hn⟩ := hrel
    by_cases hlt : m < l.length
    · obtain ⟨b, o, rfl, hB, hc⟩ := h.lit (by simp; omega)
      have y0 := hc m _ (by rw [List.getElem?_map, List.getElem?_eq_getElem hlt]; rfl)
      have HN := Lib.hid hn
      clear hc h hn
      go_wp2
      · have hxe : x = l[m] := by simpa using (‹(x == l[m]) = true›)
        go_ret
        refine ⟨ret_int ?_, rfl⟩
        have hmem : x ∈ l := by rw [hxe]; exact List.getElem_mem hlt
        unfold idxI
        rw [if_pos hmem]
        rw [hxe, idxOf_eq_of_not_take l m hlt (hxe ▸ HN.out)]
      · have hxe : ¬ x = l[m] := by simpa using (‹(x == l[m]) = false›)
        go_round
        case rel =>
          refine ⟨m + 1, by omega, by go_num, ?_⟩
          rw [take_snoc' l m hlt]
          simp only [List.mem_append, List.mem_singleton, not_or]
          exact ⟨HN.out, hxe⟩
        case measure => simp [intOf]; omega
    · have hml : m = l.length := by omega
      have hn' : x ∉ l := by rw [hml, List.take_length] at hn; exact hn
      have HN := Lib.hid hn'
      clear hml h hn hn'
      go_wp2
      go_ret
      exact ⟨ret_int (by unfold idxI; rw [if_neg HN.out]), rfl⟩

theorem idx_ge (l : List Int) (x : Int) : decide (0 ≤ idxI l x) = decide (x ∈ l) := by
  unfold idxI; by_cases h : x ∈ l <;> simp [h]

set_option maxHeartbeats 400000 in
theorem contains_any (l : List Int) (A : Option Addr) (cap : Nat) (x : Int) (B : Nat) (w : World) (h : Reads w B 1 A l.length (l.map (.int .i64))) (hl : l.length ≤ 1000000) :
    Calls Try.prog 31 #[.slice A l.length cap, .int .i64 x] w fun e w' => e = .returned (.bool (decide (x ∈ l))) ∧ w = w' := by
  go_enter Try.func31, Try.ntmps31
  go_wp2_with (go_at_call 38; refine (idx_any l A cap x B _ h hl).mono ?_; rintro e w' ⟨rfl, rfl⟩)
  go_ret
  exact ⟨ret_bool (by rw [← idx_ge]), rfl⟩

set_option maxHeartbeats 1000000 in
theorem next_any (n i : Int) (l : List Bal) (A : Option Addr) (cap : Nat) (w : World) (h : Reads w w.heap.size 3 A l.length (l.flatMap Bal.cs)) (hl : l.length ≤ 100000) (hok : ∀ b ∈ l, b.ok) :
    Calls Try.prog 11 #[.int .i64 n, .int .u64 i, .slice A l.length cap] w fun e w' => e = .returned (.tuple #[.agg #[.int .u64 (nextB n i l).1.r, .int .i64 (nextB n i l).1.n, .int .u64 (nextB n i l).1.i], .int .i64 (nextB n i l).2]) ∧ Below w.heap.size w w' := by
  have hgo := great_ok l hok
  have hg1 : 0 ≤ (great l).r := hgo.1
  have HR : Hid (Reads (w.alloc (Obj.cells #[Value.int IntKind.u64 0, Value.int IntKind.i64 0, Value.int IntKind.u64 0] 27)) (w.heap.size + 1) 3 A l.length (l.flatMap Bal.cs)) := Lib.hid ((h.alloc (Nat.le_refl _) _).more (by omega))
  clear hgo h hok
  by_cases hlf : lifeB n i = true
  · go_enter Try.func11, Try.ntmps11
    go_wp2_with fail
    refine (life_any n i _).mono ?_
    rintro e w' ⟨rfl, rfl⟩
    go_wp2_with fail
    refine (greatest_any l A cap _ (by simpa using HR.out) hl).mono ?_
    rintro e w1 ⟨rfl, hb1⟩
    obtain ⟨hc1, hf1⟩ := bcell hb1
    have hz1 := hb1.size
    simp at hz1
    have hz : w.heap.size < w1.heap.size := by omega
    have hbb := ((Below.refl w.heap.size w).alloc (Nat.le_refl _) (Obj.cells #[Value.int IntKind.u64 0, Value.int IntKind.i64 0, Value.int IntKind.u64 0] 27)).trans (hb1.mono (by simp))
    have HL := Lib.hid hlf
    clear hlf hb1
    go_wp2
    · have hge : 4611686018427387903 ≤ (great l).r := by assumption
      have e1 : nextB n i l = (Bal.zero, 3) := by unfold nextB; rw [if_neg (by rw [HL.out]; simp), if_pos hge]
      refine bodyPost_ret (v := .tuple #[.agg #[.int .u64 0, .int .i64 0, .int .u64 0], .int .i64 3]) (by simp [results, Try.results11, go_sem, hc1, hz]) rfl ⟨by rw [e1]; rfl, ?_⟩
      exact below_set3_alloc hbb (Nat.le_refl _) hbb.size _ _ _ _
    · have hge : ¬ 4611686018427387903 ≤ (great l).r := by omega
      have e1 : nextB n i l = (⟨(great l).r + 1, n, i⟩, 0) := by unfold nextB; rw [if_neg (by rw [HL.out]; simp), if_neg hge]
      refine bodyPost_ret (v := .tuple #[.agg #[.int .u64 ((great l).r + 1), .int .i64 n, .int .u64 i], .int .i64 0]) (by simp [results, Try.results11, go_sem, hc1, hz]) rfl ⟨by rw [e1], ?_⟩
      exact below_set3_alloc hbb (Nat.le_refl _) hbb.size _ _ _ _
  · have hlf : lifeB n i = false := by simpa using hlf
    have e1 : nextB n i l = (Bal.zero, 1) := by unfold nextB; rw [if_pos hlf]
    have HE := Lib.hid e1
    clear e1
    go_enter Try.func11, Try.ntmps11
    go_wp2_with fail
    refine (life_any n i _).mono ?_
    rintro e w' ⟨rfl, rfl⟩
    go_wp2_with fail
    refine bodyPost_ret (v := .tuple #[.agg #[.int .u64 0, .int .i64 0, .int .u64 0], .int .i64 1]) (by simp [results, Try.results11, go_sem]) rfl ⟨by rw [HE.out]; rfl, ?_⟩
    exact (Below.refl _ _).alloc (Nat.le_refl _) _

set_option maxHeartbeats 1000000 in
theorem rnext_any (n i : Int) (l : List Bal) (A : Option Addr) (cap : Nat) (w : World) (h : Reads w w.heap.size 3 A l.length (l.flatMap Bal.cs)) (hl : l.length ≤ 100000) (hok : ∀ b ∈ l, b.ok) :
    Calls Try.prog 12 #[.int .i64 n, .int .u64 i, .slice A l.length cap] w fun e w' => e = .returned (.tuple #[.agg #[.int .u64 (nextB n i l).1.r, .int .i64 (nextB n i l).1.n, .int .u64 (nextB n i l).1.i], .int .i64 (nextB n i l).2]) ∧ Below w.heap.size w w' := by
  have hgr := great_r l hok
  have hg1 : 0 ≤ maxR l := by rw [← hgr]; exact (great_ok l hok).1
  have HG := Lib.hid hgr
  clear hgr
  by_cases hlf : lifeB n i = true
  · have HL := Lib.hid hlf
    go_enter Try.func12, Try.ntmps12
    go_wp2_with fail
    refine (rlife_any n i _).mono ?_
    rintro e w' ⟨rfl, rfl⟩
    go_wp2_with fail
    clear hlf
    go_loop [8, 9] (fun r k => ∃ m : Nat, m ≤ l.length ∧ k = .int .i64 m ∧ r = .int .u64 (maxR (l.take m))) (fun _ k => l.length - (intOf k).toNat)
    case atStart => exact ⟨0, Nat.zero_le _, rfl, rfl⟩
    case round =>
      obtain ⟨m, hm, rfl, rfl⟩ := hrel
      by_cases hlt : m < l.length
      · obtain ⟨b, o, rfl, hB, hc⟩ := h.elem balcs_len hlt (by omega)
        have y0 := hc 0 _ (by omega) rfl
        rw [Nat.add_zero] at y0
        have hts := take_snoc' l m hlt
        have HS := Lib.hid (maxR_snoc (l.take m) l[m])
        rw [← hts] at HS
        clear hc h hts
        go_wp2
        · have hlt' : maxR (l.take m) < (l[m]).r := by assumption
          go_round
          case rel => exact ⟨m + 1, by omega, by go_num, by rw [HS.out, if_pos hlt']⟩
          case measure => simp [intOf]; omega
        · have hlt' : (l[m]).r ≤ maxR (l.take m) := by assumption
          go_round
          case rel => exact ⟨m + 1, by omega, by go_num, by rw [HS.out, if_neg (by omega)]⟩
          case measure => simp [intOf]; omega
      · have hml : l.take m = l := by rw [List.take_of_length_le]; omega
        rw [hml]
        clear hml h
        go_wp2
        · have hge : 4611686018427387903 ≤ maxR l := by assumption
          have e1 : nextB n i l = (Bal.zero, 3) := by unfold nextB; rw [if_neg (by rw [HL.out]; simp), HG.out, if_pos hge]
          refine bodyPost_ret (v := .tuple #[.agg #[.int .u64 0, .int .i64 0, .int .u64 0], .int .i64 3]) (by simp [results, Try.results12, go_sem]) rfl ⟨by rw [e1]; rfl, ?_⟩
          exact (Below.refl _ _).alloc (Nat.le_refl _) _
        · have hge : maxR l < 4611686018427387903 := by assumption
          have e1 : nextB n i l = (⟨maxR l + 1, n, i⟩, 0) := by unfold nextB; rw [if_neg (by rw [HL.out]; simp), HG.out, if_neg (by omega)]
          refine bodyPost_ret (v := .tuple #[.agg #[.int .u64 (maxR l + 1), .int .i64 n, .int .u64 i], .int .i64 0]) (by simp [results, Try.results12, go_sem]) rfl ⟨by rw [e1], ?_⟩
          exact (Below.refl _ _).alloc (Nat.le_refl _) _
  · have hlf : lifeB n i = false := by simpa using hlf
    have e1 : nextB n i l = (Bal.zero, 1) := by unfold nextB; rw [if_pos hlf]
    have HE := Lib.hid e1
    clear e1
    go_enter Try.func12, Try.ntmps12
    go_wp2_with fail
    refine (rlife_any n i _).mono ?_
    rintro e w' ⟨rfl, rfl⟩
    go_wp2_with fail
    refine bodyPost_ret (v := .tuple #[.agg #[.int .u64 0, .int .i64 0, .int .u64 0], .int .i64 1]) (by simp [results, Try.results12, go_sem]) rfl ⟨by rw [HE.out]; rfl, ?_⟩
    exact (Below.refl _ _).alloc (Nat.le_refl _) _

end Go.Proofs.Ytpmkpkfkimcpjaa
