/- Chapter 05: the document's net in memory; a link, whether it is cut, whether it is open. -/
import Derived.Test.YtfmflbcmigiciaaMany
namespace Go.Proofs.Ytfmflbcmigiciaa
open Go.RowKit

def pr (p : Int × Int) : List Value := [.int .i64 p.1, .int .i64 p.2]
theorem pr_len (p : Int × Int) : (pr p).length = 2 := rfl
theorem pr_one (l : List (Int × Int)) : ∀ u ∈ l.flatMap pr, u.oneCell' = true := by
  intro u hu
  obtain ⟨b, _, hb⟩ := List.mem_flatMap.1 hu
  simp only [pr, List.mem_cons, List.not_mem_nil, or_false] at hb
  rcases hb with rfl | rfl <;> rfl
def linkP (a b : Int) : Int × Int := (min a b, max a b)
def Agr (N : Int) (cut : Nat → Nat → Bool) (cl : List (Int × Int)) : Prop := ∀ a b, twoB N a b = true → cut a.toNat b.toNat = decide (linkP a b ∈ cl)

/-- The document's net in memory. -/
structure RefAt (w : World) (R : Nat → Prop) (M : Nat) (N : Int) (cut : Nat → Nat → Bool) (bag : List Msg) (K : Nat) : Prop where
  ex : ∃ Ab cb Ac cc rs cl, Blk w M 64 #[.int .i64 N, .slice Ab bag.length cb, .slice Ac (List.length cl) cc] ∧ RD R w 3 Ab bag.length (rs.flatMap Raw.cs) ∧ MsgsAt R w rs bag ∧ RD R w 2 Ac cl.length (cl.flatMap pr) ∧ cl.length ≤ K ∧ Agr N cut cl ∧ bag.length ≤ cb ∧ cb ≤ maxLen
  lo : 1 ≤ N
  hi : N ≤ 15
  len : bag.length ≤ 64
  off : ¬ R M
  lt : ∀ k, R k → k < w.heap.size
theorem RefAt.M_lt {w : World} {R : Nat → Prop} {M : Nat} {N : Int} {cut : Nat → Nat → Bool} {bag : List Msg} {K : Nat} (h : RefAt w R M N cut bag K) : M < w.heap.size := by
  obtain ⟨_, _, _, _, _, _, h1, _⟩ := h.ex
  exact h1.lt
theorem RefAt.upd {S R R' : Nat → Prop} {w w' : World} {M : Nat} {N : Int} {cut : Nat → Nat → Bool} {bag : List Msg} {K : Nat} (h : RefAt w R M N cut bag K) (hu : Upd S R R' w w') (hs : ¬ S M) : RefAt w' R' M N cut bag K := by
  have hM := h.M_lt
  obtain ⟨Ab, cb, Ac, cc, rs, cl, h1, h2, h3, h4, h5, h6, h7⟩ := h.ex
  refine ⟨⟨Ab, cb, Ac, cc, rs, cl, h1.far_ hu.far hs, h2.upd hu, h3.upd hu, h4.upd hu, h5, h6, h7⟩, h.lo, h.hi, h.len, fun hR => ?_, hu.lt⟩
  rcases hu.old M hR with h4 | h4
  · exact h.off h4
  · omega
theorem RefAt.below {R : Nat → Prop} {w w' : World} {M : Nat} {N : Int} {cut : Nat → Nat → Bool} {bag : List Msg} {K : Nat} (h : RefAt w R M N cut bag K) (hb : Below w.heap.size w w') : RefAt w' R M N cut bag K := h.upd (Upd.of_below h.lt hb) id
theorem RefAt.moreR {R : Nat → Prop} {w : World} {M : Nat} {N : Int} {cut : Nat → Nat → Bool} {bag : List Msg} {K : Nat} (h : RefAt w R M N cut bag K) {X : Nat → Prop} (hX : ∀ k, X k → k < w.heap.size ∧ k ≠ M) : RefAt w (fun k => R k ∨ X k) M N cut bag K := by
  obtain ⟨Ab, cb, Ac, cc, rs, cl, h1, h2, h3, h4, h5, h6, h7⟩ := h.ex
  refine ⟨⟨Ab, cb, Ac, cc, rs, cl, h1, h2.moreR fun _ => .inl, h3.moreR fun _ => .inl, h4.moreR fun _ => .inl, h5, h6, h7⟩, h.lo, h.hi, h.len, fun hR => ?_, fun k hR => ?_⟩
  · rcases hR with hR | hR
    · exact h.off hR
    · exact (hX M hR).2 rfl
  · rcases hR with hR | hR
    · exact h.lt k hR
    · exact (hX k hR).1

theorem rnew_no (N : Int) (w : World) (h : ¬ (1 ≤ N ∧ N ≤ 15)) : Calls Try.prog 20 #[.int .i64 N] w fun e w' => e = .returned (.pointer none) ∧ w = w' := by
  by_cases h1 : N < 1
  · clear h
    go_enter Try.func20, Try.ntmps20
    go_wp2_with fail
    go_ret
    exact ⟨rfl, rfl⟩
  · have h2 : 15 < N := by omega
    have d1 : decide (N < 1) = false := decide_eq_false h1
    clear h
    go_enter Try.func20, Try.ntmps20
    go_wp2_with fail
    go_ret
    exact ⟨rfl, rfl⟩
theorem rnew_yes (N : Int) (w : World) (R : Nat → Prop) (hR : ∀ k, R k → k < w.heap.size) (h1 : 1 ≤ N) (h2 : N ≤ 15) : Calls Try.prog 20 #[.int .i64 N] w fun e w' => e = .returned (.pointer (some ⟨w.heap.size, 0, none⟩)) ∧ Below w.heap.size w w' ∧ RefAt w' R w.heap.size N (fun _ _ => false) [] 0 := by
  have d1 : decide (N < 1) = false := decide_eq_false (by omega)
  have d2 : decide (15 < N) = false := decide_eq_false (by omega)
  go_enter Try.func20, Try.ntmps20
  go_wp2_with fail
  go_ret
  have hb := (Below.refl w.heap.size w).alloc (Nat.le_refl _) (.cells #[.int .i64 N, .slice none 0 0, .slice none 0 0] 64)
  refine ⟨rfl, hb, ⟨none, 0, none, 0, [], [], Blk.new _ _ _, ⟨Reads.none_, fun h => by simp at h⟩, MsgsAt.nil, ⟨Reads.none_, fun h => by simp at h⟩, Nat.le_refl _, fun a b _ => by simp, Nat.le_refl _, Nat.zero_le _⟩, h1, h2, by simp, fun hr => ?_, fun k hk => Nat.lt_of_lt_of_le (hR k hk) hb.size⟩
  have := hR _ hr; omega

set_option maxHeartbeats 1000000 in
theorem rlink_no (M : Nat) (N a b : Int) (c1 c2 : Value) (w : World) (h : Blk w M 64 #[.int .i64 N, c1, c2]) (h2 : twoB N a b = false) : Calls Try.prog 48 #[.pointer (some ⟨M, 0, none⟩), .int .i64 a, .int .i64 b] w fun e w' => e = .returned (.tuple #[.agg #[.int .i64 0, .int .i64 0], .bool false]) ∧ Below w.heap.size w w' := by
  have h3 : ¬ (1 ≤ a ∧ a ≤ N ∧ 1 ≤ b ∧ b ≤ N ∧ a ≠ b) := of_decide_eq_false h2
  have m0 := h.cell 0
  have ml := h.lt
  have HB := Lib.hid ((Below.refl w.heap.size w).alloc (Nat.le_refl _) (.cells #[.int .i64 0, .int .i64 0] 80))
  have H3 := Lib.hid h3
  clear h h2 h3
  go_enter Try.func48, Try.ntmps48
  by_cases h1 : a < 1
  · go_wp2_with fail
    exact bodyPost_ret (v := .tuple #[.agg #[.int .i64 0, .int .i64 0], .bool false]) (by simp [results, Try.results48, go_sem]) rfl ⟨rfl, HB.out⟩
  · have d1 : decide (a < 1) = false := decide_eq_false h1
    by_cases h2 : N < a
    · go_wp2_with fail
      exact bodyPost_ret (v := .tuple #[.agg #[.int .i64 0, .int .i64 0], .bool false]) (by simp [results, Try.results48, go_sem]) rfl ⟨rfl, HB.out⟩
    · have d2 : decide (N < a) = false := decide_eq_false h2
      by_cases h3 : b < 1
      · go_wp2_with fail
        exact bodyPost_ret (v := .tuple #[.agg #[.int .i64 0, .int .i64 0], .bool false]) (by simp [results, Try.results48, go_sem]) rfl ⟨rfl, HB.out⟩
      · have d3 : decide (b < 1) = false := decide_eq_false h3
        by_cases h4 : N < b
        · go_wp2_with fail
          exact bodyPost_ret (v := .tuple #[.agg #[.int .i64 0, .int .i64 0], .bool false]) (by simp [results, Try.results48, go_sem]) rfl ⟨rfl, HB.out⟩
        · have d4 : decide (N < b) = false := decide_eq_false h4
          have h5 : a = b := Classical.byContradiction fun hne => H3.out ⟨by omega, by omega, by omega, by omega, hne⟩
          have d5 : (a == b) = true := by simpa using h5
          clear h5
          go_wp2_with fail
          exact bodyPost_ret (v := .tuple #[.agg #[.int .i64 0, .int .i64 0], .bool false]) (by simp [results, Try.results48, go_sem]) rfl ⟨rfl, HB.out⟩

set_option maxHeartbeats 1000000 in
theorem rlink_yes (M : Nat) (N a b : Int) (c1 c2 : Value) (w : World) (h : Blk w M 64 #[.int .i64 N, c1, c2]) (h2 : twoB N a b = true) : Calls Try.prog 48 #[.pointer (some ⟨M, 0, none⟩), .int .i64 a, .int .i64 b] w fun e w' => e = .returned (.tuple #[.agg #[.int .i64 (linkP a b).1, .int .i64 (linkP a b).2], .bool true]) ∧ Below w.heap.size w w' := by
  have h3 : 1 ≤ a ∧ a ≤ N ∧ 1 ≤ b ∧ b ≤ N ∧ a ≠ b := of_decide_eq_true h2
  obtain ⟨ha1, ha2, hb1, hb2, hab⟩ := h3
  have m0 := h.cell 0
  have ml := h.lt
  have d1 : decide (a < 1) = false := decide_eq_false (by omega)
  have d2 : decide (N < a) = false := decide_eq_false (by omega)
  have d3 : decide (b < 1) = false := decide_eq_false (by omega)
  have d4 : decide (N < b) = false := decide_eq_false (by omega)
  have d5 : (a == b) = false := by simpa using hab
  clear h h2
  go_enter Try.func48, Try.ntmps48
  by_cases hl : a < b
  · have hm : linkP a b = (a, b) := by unfold linkP; rw [Int.min_eq_left (by omega), Int.max_eq_right (by omega)]
    rw [hm]
    clear hm
    go_wp2_with fail
    all_goals first
      | (exfalso; omega)
      | exact bodyPost_ret (v := .tuple #[.agg #[.int .i64 a, .int .i64 b], .bool true]) (by simp [results, Try.results48, go_sem]) rfl ⟨rfl, (Below.refl _ _).alloc (Nat.le_refl _) _⟩
  · have hm : linkP a b = (b, a) := by unfold linkP; rw [Int.min_eq_right (by omega), Int.max_eq_left (by omega)]
    rw [hm]
    clear hm
    go_wp2_with fail
    all_goals first
      | (exfalso; omega)
      | exact bodyPost_ret (v := .tuple #[.agg #[.int .i64 b, .int .i64 a], .bool true]) (by simp [results, Try.results48, go_sem]) rfl ⟨rfl, (Below.refl _ _).alloc (Nat.le_refl _) _⟩

theorem u80 : Try.prog.underlying 80 = some (.array 2 3) := by kernel_rfl
theorem u3 : Try.prog.underlying 3 = some (.int .i64) := by kernel_rfl
theorem agg3 (W : World) : (isAgg 3).run Try.prog W = .ok false W := by
  simp [isAgg, run_underlying u3]
theorem run_eqL (x1 x2 y1 y2 : Int) (W : World) :
    (binOp .eql 80 (.agg #[.int .i64 x1, .int .i64 x2]) (.agg #[.int .i64 y1, .int .i64 y2])).run Try.prog W = .ok (.bool (decide (x1 = y1 ∧ x2 = y2))) W := by
  rw [run_eql_struct]
  unfold Op.equalIn
  have hr : List.range' 0 2 = [0, 1] := rfl
  have he := fun (a b : Int) => run_equalIn_int (P := Try.prog) W 9998 3 .i64 .i64 a b u3
  simp [go_sem, run_underlying u80, hr, List.forIn_cons, Result.andThen, he]
  by_cases h1 : x1 = y1 <;> by_cases h2 : x2 = y2 <;> simp [h1, h2, go_sem, Result.andThen, he]
theorem run_neL (x1 x2 y1 y2 : Int) (W : World) :
    (binOp .neq 80 (.agg #[.int .i64 x1, .int .i64 x2]) (.agg #[.int .i64 y1, .int .i64 y2])).run Try.prog W = .ok (.bool (!decide (x1 = y1 ∧ x2 = y2))) W := by
  have h := run_eqL x1 x2 y1 y2 W
  rw [run_eql_struct] at h
  rw [run_neq_struct]
  generalize (Op.equalIn 10000 80 (.agg #[.int .i64 x1, .int .i64 x2]) (.agg #[.int .i64 y1, .int .i64 y2])).run Try.prog W = r at h ⊢
  cases r with
  | ok b w' =>
    simp only [Result.andThen, Result.ok.injEq, Value.bool.injEq] at h ⊢
    exact ⟨by rw [h.1], h.2⟩
  | halt x w' => simp [Result.andThen] at h

theorem pr_elem {w : World} {B : Nat} {A : Option Addr} {l : List (Int × Int)} (h : Reads w B 2 A l.length (l.flatMap pr)) {k : Nat} (hk : k < l.length) :
    ∃ b o, A = some ⟨b, o, none⟩ ∧ b < B ∧ w.cell? ⟨b, o + k * 2, none⟩ = some (.int .i64 l[k].1) ∧ w.cell? ⟨b, o + k * 2 + 1, none⟩ = some (.int .i64 l[k].2) := by
  obtain ⟨b, o, rfl, hB, hc⟩ := Reads.elem pr_len h hk (by omega)
  have y0 := hc 0 _ (by omega) rfl
  have y1 := hc 1 _ (by omega) rfl
  rw [Nat.add_zero] at y0
  exact ⟨b, o, rfl, hB, y0, y1⟩

set_option maxHeartbeats 2000000 in
theorem rcut_any (M : Nat) (c0 c1 : Value) (cl : List (Int × Int)) (A : Option Addr) (cc : Nat) (p : Int × Int) (w : World) (h : Blk w M 64 #[c0, c1, .slice A cl.length cc]) (hr : Reads w w.heap.size 2 A cl.length (cl.flatMap pr)) (hl : cl.length ≤ 1000000) :
    Calls Try.prog 49 #[.pointer (some ⟨M, 0, none⟩), .agg #[.int .i64 p.1, .int .i64 p.2]] w fun e w' => e = .returned (.bool (decide (p ∈ cl))) ∧ Below w.heap.size w w' := by
  have H := Lib.hid h
  have HR := Lib.hid hr
  have m2 := h.cell 2
  have ml := h.lt
  clear h hr
  go_enter Try.func49, Try.ntmps49
  go_wp2_with fail
  obtain ⟨W0, hW0⟩ : ∃ W0, W0 = w.alloc (.cells #[.int .i64 p.1, .int .i64 p.2] 80) := ⟨_, rfl⟩
  have hb0 : Below w.heap.size w W0 := by rw [hW0]; exact (Below.refl _ _).alloc (Nat.le_refl _) _
  have hk0 : Blk W0 w.heap.size 80 #[.int .i64 p.1, .int .i64 p.2] := by rw [hW0]; exact Blk.new _ _ _
  have hs0 : w.heap.size < W0.heap.size := by rw [hW0]; simp
  rw [← hW0]
  have HK0 := Lib.hid hk0
  clear hW0 m2 hk0
  go_loopw [5] (fun v wr => ∃ k : Nat, k ≤ cl.length ∧ v = .int .i64 k ∧ Below W0.heap.size W0 wr ∧ ∀ x ∈ cl.take k, x ≠ p) (fun v _ => cl.length - (intOf v).toNat)
  case atStart => exact ⟨0, Nat.zero_le _, rfl, Below.refl _ _, by simp⟩
  case round =>
    obtain ⟨k, hk, rfl, hbr, hno⟩ := hrel
    have hbw := hb0.trans (hbr.mono hb0.size)
    have hm := H.out.below hbw ml
    have m2 := hm.cell 2
    have ml2 := hm.lt
    have k0 := (HK0.out.below hbr hs0).cell 0
    have k1 := (HK0.out.below hbr hs0).cell 1
    have kl := (HK0.out.below hbr hs0).lt
    have HBW := Lib.hid hbw
    have HBR := Lib.hid hbr
    have HNO := Lib.hid hno
    have hrw := HR.out.below hbw
    clear hm hbw hbr hno
    by_cases hlt : k < cl.length
    · obtain ⟨b, o, hA, hBb, y0, y1⟩ := pr_elem hrw hlt
      subst hA
      have hbb : b < wr.heap.size := by have := HBW.out.size; omega
      have htk := List.take_succ_eq_append_getElem hlt
      have HTK := Lib.hid htk
      have hmem : cl[k] ∈ cl := List.getElem_mem hlt
      obtain ⟨q, hq⟩ : ∃ q, q = cl[k] := ⟨_, rfl⟩
      rw [← hq] at y0 y1 hmem
      have HQ := Lib.hid hq
      have HME := Lib.hid hmem
      clear hrw htk hq hmem
      have hE := run_eqL q.1 q.2 p.1 p.2
      by_cases heq : q = p
      · have hd : decide (q.1 = p.1 ∧ q.2 = p.2) = true := decide_eq_true (by rw [heq]; exact ⟨rfl, rfl⟩)
        simp only [hd] at hE
        have hmp := Lib.hid (show p ∈ cl by rw [← heq]; exact HME.out)
        clear heq hd
        go_wp2_with fail
        go_quiet (fail)
        go_wp2_with fail
        go_ret
        exact ⟨ret_bool (decide_eq_true hmp.out).symm, below_drewN HBW.out _⟩
      · have hd : decide (q.1 = p.1 ∧ q.2 = p.2) = false := decide_eq_false (fun h => heq (Prod.ext h.1 h.2))
        simp only [hd] at hE
        have HEQ := Lib.hid heq
        clear heq hd
        go_wp2_with fail
        go_quiet (fail)
        go_wp2_with fail
        go_roundw
        case rel => exact ⟨k + 1, by omega, by go_num, below_drewN HBR.out _, fun x hx => by
          rw [HTK.out] at hx
          rcases List.mem_append.1 hx with hx | hx
          · exact HNO.out x hx
          · simp at hx; rw [hx, ← HQ.out]; exact HEQ.out⟩
        case measure => simp [intOf]; omega
    · have hkl : k = cl.length := by omega
      have hnm := Lib.hid (show p ∉ cl from fun hm => HNO.out p (by rw [hkl, List.take_length]; exact hm) rfl)
      clear hrw hkl
      go_wp2_with fail
      go_ret
      exact ⟨ret_bool (decide_eq_false hnm.out).symm, HBW.out⟩
theorem openB_agr {N : Int} {cut : Nat → Nat → Bool} {cl : List (Int × Int)} (h : Agr N cut cl) {a b : Int} (h2 : twoB N a b = true) : openB N cut a b = !decide (linkP a b ∈ cl) := by
  unfold openB; rw [h2, h a b h2]; rfl

set_option maxHeartbeats 1000000 in
theorem ropen_any {w : World} {R : Nat → Prop} {M : Nat} {N : Int} {cut : Nat → Nat → Bool} {bag : List Msg} {K : Nat} (h : RefAt w R M N cut bag K) (hK : K ≤ 1000000) (a b : Int) :
    Calls Try.prog 44 #[.pointer (some ⟨M, 0, none⟩), .int .i64 a, .int .i64 b] w fun e w' => e = .returned (.bool (openB N cut a b)) ∧ Below w.heap.size w w' := by
  obtain ⟨Ab, cb, Ac, cc, rs, cl, h1, h2, h3, h4, h5, h6, h7⟩ := h.ex
  cases ht : twoB N a b with
  | false =>
    have C := Lib.hid (rlink_no M N a b _ _ w h1 ht)
    have ho : openB N cut a b = false := by unfold openB; rw [ht]; rfl
    rw [ho]
    clear h h1 h2 h3 h4 h5 h6 h7 ht ho
    go_enter Try.func44, Try.ntmps44
    go_wp2_with fail
    refine C.out.mono ?_
    rintro e w1 ⟨rfl, hb⟩
    have HB := Lib.hid hb
    clear hb C
    go_wp2_with fail
    go_ret
    exact ⟨rfl, HB.out.alloc HB.out.size _⟩
  | true =>
    have C := Lib.hid (rlink_yes M N a b _ _ w h1 ht)
    have HO := Lib.hid (openB_agr h6 ht)
    have H1 := Lib.hid h1
    have H4 := Lib.hid h4.1
    have H5 := Lib.hid (Nat.le_trans h5 hK)
    clear h h1 h2 h3 h4 h5 h6 h7 ht
    go_enter Try.func44, Try.ntmps44
    go_wp2_with fail
    refine C.out.mono ?_
    rintro e w1 ⟨rfl, hb⟩
    have hb2 := hb.alloc hb.size (.cells #[.int .i64 (linkP a b).1, .int .i64 (linkP a b).2] 80)
    have D := Lib.hid (rcut_any M _ _ cl Ac cc (linkP a b) _ (H1.out.below hb2 H1.out.lt) ((H4.out.below hb2).more hb2.size) H5.out)
    have HB := Lib.hid hb2
    clear hb hb2 C
    go_wp2_with fail
    refine D.out.mono ?_
    rintro e w2 ⟨rfl, hb3⟩
    have HB3 := Lib.hid (HB.out.trans (hb3.mono HB.out.size))
    clear hb3 D
    go_wp2_with fail
    go_ret
    exact ⟨ret_bool HO.out.symm, HB3.out⟩
end Go.Proofs.Ytfmflbcmigiciaa
