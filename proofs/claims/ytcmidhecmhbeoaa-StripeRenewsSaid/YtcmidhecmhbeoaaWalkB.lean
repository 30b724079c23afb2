/- Chapter 14: Clone, count, from, what is enough. -/
import Derived.Test.YtcmidhecmhbeoaaWalkA
namespace Go.Proofs.Ytcmidhecmhbeoaa
open Go.RowKit

theorem info37 : (Try.prog.info? 37).map (fun i => (i.zero, i.size, i.bytes)) = some (some (.agg #[.int .i64 0, .int .u64 0]), 2, 16) := by kernel_rfl

theorem pr_take {w : World} {B : Nat} {A : Option Addr} {l : List Pl} (h : PR w B A l) (m : Nat) : PR w B A (l.take m) := by
  obtain ⟨h1, h2⟩ := h
  refine ⟨flat_len Pl.cs 2 pl_len _, fun hn => ?_⟩
  have hl : 0 < l.length := by simp at hn; omega
  obtain ⟨ad, ha, hb, hc⟩ := h2 hl
  refine ⟨ad, ha, hb, fun j u hu => hc j u ?_⟩
  have hsp : l.flatMap Pl.cs = (l.take m).flatMap Pl.cs ++ (l.drop m).flatMap Pl.cs := by rw [← List.flatMap_append, List.take_append_drop]
  rw [hsp, List.getElem?_append_left (List.getElem?_eq_some_iff.1 hu).1]
  exact hu

set_option maxHeartbeats 400000 in
theorem clone_any (l : List Pl) (A : Option Addr) (c : Nat) (B : Nat) (w : World) (h : PR w B A l) (hB : B ≤ w.heap.size) (hl : l.length ≤ 100000) :
    Calls Try.prog 35 #[.slice A l.length c] w fun e w' => ∃ A' c', e = .returned (.slice A' l.length c') ∧ Below w.heap.size w w' ∧ l.length ≤ c' ∧ c' ≤ maxLen ∧ w'.ownsRow w.heap.size 37 2 (.slice A' l.length c') l.length (l.flatMap Pl.cs) := by
  obtain ⟨i0, hi, hz0, hz1, hz2⟩ := info_parts info37
  have h := h.more hB
  clear hB
  rcases A with _ | ad
  · have h0 : l = [] := by
      rcases Nat.eq_zero_or_pos l.length with h0 | h0
      · exact List.eq_nil_of_length_eq_zero h0
      · obtain ⟨ad, h, _⟩ := h.2 h0
        cases h
    subst h0
    clear h
    have hE : ∀ W, (binOp .eql 23 (.slice none 0 c) (.slice none 0 0)).run Try.prog W = .ok (.bool true) W := fun _ => rfl
    go_enter Try.func35, Try.ntmps35
    go_wp2
    go_ret
    exact ⟨none, 0, rfl, Below.refl _ _, Nat.le_refl _, Nat.zero_le _, rfl, .inl ⟨rfl, rfl⟩⟩
  · have H := Lib.hid h
    clear h
    have hE : ∀ W, (binOp .eql 23 (.slice (some ad) l.length c) (.slice none 0 0)).run Try.prog W = .ok (.bool false) W := fun _ => rfl
    go_enter Try.func35, Try.ntmps35
    go_wp2_with (at_builtin; refine wpList_append_any _ rfl (.tmp 5) (.tmp 6) 23 rfl w.heap.size 37 i0 _ 2 16 Try.underlying23 hi hz0 hz1 hz2 rfl (by decide) (.slice (some ⟨w.heap.size, 0, none⟩) 0 0) 0 [] rfl (World.ownsRow_made w #[] 0 (Nat.le_refl _) (Nat.zero_le _) rfl) w.heap.size (some ad) l.length c (l.flatMap Pl.cs) rfl (H.out.alloc (Nat.le_refl _) _) (pl_one l) ?c1 ?c2 ?c3 ?_)
    case c1 => simp only [maxLen]; omega
    case c2 => omega
    case c3 => simp
    intro v1 w1 hown hg hat
    obtain ⟨hb, hlt, A', c', rfl, hc1, hc2, _, HO⟩ := lit_post hown hg
    have HOO := Lib.hid HO
    clear hown hg hat HO
    go_wp2_with fail
    go_ret
    exact ⟨A', c', rfl, hb, hc1, hc2, HOO.out⟩

theorem contains_val (v : Bool) (l : List Pl) (A : Option Addr) (cap n : Nat) (xn xs : Int) (B : Nat) (w : World) (hn : l.length = n) (h : Reads w B 2 A n (l.flatMap Pl.cs)) (hB : B ≤ w.heap.size) (hl : n ≤ 1000000) (hv : decide ((⟨xn, xs⟩ : Pl) ∈ l) = v) :
    Calls Try.prog 37 #[.slice A n cap, .agg #[.int .i64 xn, .int .u64 xs]] w fun e w' => e = .returned (.bool v) ∧ Below w.heap.size w w' := by
  subst hn; rw [← hv]; exact contains_any l A cap xn xs B w h hB hl

set_option maxHeartbeats 1000000 in
theorem count_any (l fr : List Pl) (A A2 : Option Addr) (cap cap2 : Nat) (B : Nat) (w : World) (h : PR w B A l) (h2 : PR w B A2 fr) (hB : B ≤ w.heap.size) (hc : l.length ≤ cap) (hl : l.length ≤ 100000) (hr : fr.length ≤ 100000) :
    Calls Try.prog 48 #[.slice A l.length cap, .slice A2 fr.length cap2] w fun e w' => e = .returned (.int .i64 (among l fr : Nat)) ∧ Below w.heap.size w w' := by
  have h := h.more hB
  have h2 := h2.more hB
  clear hB
  go_enter Try.func48, Try.ntmps48
  go_wp2
  go_loopw [5, 6, 7, 10] (fun n _ _ k wr => ∃ m : Nat, m ≤ l.length ∧ k = .int .i64 m ∧ n = .int .i64 (among (l.take m) fr : Nat) ∧ Below w.heap.size w wr) (fun _ _ _ k _ => l.length - (intOf k).toNat)
  case atStart => exact ⟨0, Nat.zero_le _, rfl, rfl, Below.refl _ _⟩
  case round =>
    obtain ⟨m, hm, rfl, rfl, hb⟩ := hrel
    have hal : among (l.take m) fr ≤ 100000 := by have := among_le (l.take m) fr; simp at this; omega
    by_cases hlt : m < l.length
    · obtain ⟨b, o, yn, ys, rfl, hB, hy, y0, y1⟩ := pl_elem (h.below hb) hlt
      have hts := take_snoc? hy
      have has := among_snoc (l.take m) fr ⟨yn, ys⟩
      rw [← hts] at has
      have hp := Lib.hid (pr_take h m)
      have htl : (l.take m).length = m := by simp; omega
      have H2 := Lib.hid h2
      have HAS := Lib.hid has
      clear has hts hy h h2
      have hsz := hb.size
      go_wp2_with fail
      have hb1 := hb.alloc hb.size (.cells #[.int .i64 yn, .int .u64 ys] 37)
      have hk := Blk.new wr 37 #[.int .i64 yn, .int .u64 ys]
      have hp1 := hp.out.below hb1
      have h21 := H2.out.below hb1
      generalize wr.alloc (.cells #[.int .i64 yn, .int .u64 ys] 37) = W at hb1 hk hp1 h21 ⊢
      have hWs := hb1.size
      have hgl := hk.lt
      clear hb hp H2 y0 y1
      rw [htl] at hp1
      obtain ⟨d1, hd1⟩ : ∃ d, decide ((⟨yn, ys⟩ : Pl) ∈ fr) = d := ⟨_, rfl⟩
      obtain ⟨d2, hd2⟩ : ∃ d, decide ((⟨yn, ys⟩ : Pl) ∈ l.take m) = d := ⟨_, rfl⟩
      have hs1 : among (l.take (m + 1)) fr = among (l.take m) fr + if d1 = true ∧ d2 = false then 1 else 0 := by
        rw [HAS.out, ← hd1, ← hd2]; simp
      have HI := Lib.hid hd1
      have HO := Lib.hid hd2
      clear hd1 hd2 HAS
      cases d1 with
      | false =>
        simp only [Bool.false_eq_true, false_and, if_false, Nat.add_zero] at hs1
        have HAS := Lib.hid hs1
        clear hs1
        refine Seg.region [(11, true)] (by kernel_rfl) (by kernel_rfl) ?_
        intro ι _ f hf hx
        simp only [List.take_succ_cons, List.take_zero, List.drop_succ_cons, List.drop_zero]
        have hf := fun i => below_of_drew (hf i)
        have c0 : ∀ i, (f i).cell? ⟨wr.heap.size, 0, none⟩ = some (.int .i64 yn) := fun i => (hk.below (hf i) hgl).cell 0
        have c1 : ∀ i, (f i).cell? ⟨wr.heap.size, 1, none⟩ = some (.int .u64 ys) := fun i => (hk.below (hf i) hgl).cell 1
        have HF := Lib.hid hf
        have HB := Lib.hid (fun i => hb1.trans ((hf i).mono hWs))
        clear hf hk
        repeat (go_big_quiet_step ((go_at_call 37; first
          | exact (contains_val _ fr A2 cap2 _ yn ys _ _ rfl (h21.below ((HF.out _).mono hWs)) (Nat.le_trans hWs (HF.out _).size) (by omega) HI.out).mono fun _ _ hh => ⟨hh.1, hx _ _ hh.2⟩
          | exact (contains_val _ (l.take m) _ _ m yn ys _ _ htl (hp1.below ((HF.out _).mono hWs)) (Nat.le_trans hWs (HF.out _).size) (by omega) HO.out).mono fun _ _ hh => ⟨hh.1, hx _ _ hh.2⟩)))
        refine wpQuiet_nil ?_
        intro i
        have hBi := HB.out i
        simp only [Seg.Walk]
        go_wp2_with fail
        go_roundw
        case rel => exact ⟨m + 1, by omega, by go_num, by first | (rw [HAS.out]; done) | (rw [HAS.out]; go_num), hBi⟩
        case measure => simp [intOf]; omega
      | true =>
        cases d2 with
        | false =>
          simp only [and_self, if_true] at hs1
          have HAS := Lib.hid hs1
          clear hs1
          refine Seg.region [(11, true)] (by kernel_rfl) (by kernel_rfl) ?_
          intro ι _ f hf hx
          simp only [List.take_succ_cons, List.take_zero, List.drop_succ_cons, List.drop_zero]
          have hf := fun i => below_of_drew (hf i)
          have c0 : ∀ i, (f i).cell? ⟨wr.heap.size, 0, none⟩ = some (.int .i64 yn) := fun i => (hk.below (hf i) hgl).cell 0
          have c1 : ∀ i, (f i).cell? ⟨wr.heap.size, 1, none⟩ = some (.int .u64 ys) := fun i => (hk.below (hf i) hgl).cell 1
          have HF := Lib.hid hf
          have HB := Lib.hid (fun i => hb1.trans ((hf i).mono hWs))
          clear hf hk
          repeat (go_big_quiet_step ((go_at_call 37; first
            | exact (contains_val _ fr A2 cap2 _ yn ys _ _ rfl (h21.below ((HF.out _).mono hWs)) (Nat.le_trans hWs (HF.out _).size) (by omega) HI.out).mono fun _ _ hh => ⟨hh.1, hx _ _ hh.2⟩
            | exact (contains_val _ (l.take m) _ _ m yn ys _ _ htl (hp1.below ((HF.out _).mono hWs)) (Nat.le_trans hWs (HF.out _).size) (by omega) HO.out).mono fun _ _ hh => ⟨hh.1, hx _ _ hh.2⟩)))
          refine wpQuiet_nil ?_
          intro i
          have hBi := HB.out i
          simp only [Seg.Walk]
          go_wp2_with fail
          go_roundw
          case rel => exact ⟨m + 1, by omega, by go_num, by first | (rw [HAS.out]; done) | (rw [HAS.out]; go_num), hBi⟩
          case measure => simp [intOf]; omega
        | true =>
          simp only [Bool.true_eq_false, and_false, if_false, Nat.add_zero] at hs1
          have HAS := Lib.hid hs1
          clear hs1
          refine Seg.region [(11, true)] (by kernel_rfl) (by kernel_rfl) ?_
          intro ι _ f hf hx
          simp only [List.take_succ_cons, List.take_zero, List.drop_succ_cons, List.drop_zero]
          have hf := fun i => below_of_drew (hf i)
          have c0 : ∀ i, (f i).cell? ⟨wr.heap.size, 0, none⟩ = some (.int .i64 yn) := fun i => (hk.below (hf i) hgl).cell 0
          have c1 : ∀ i, (f i).cell? ⟨wr.heap.size, 1, none⟩ = some (.int .u64 ys) := fun i => (hk.below (hf i) hgl).cell 1
          have HF := Lib.hid hf
          have HB := Lib.hid (fun i => hb1.trans ((hf i).mono hWs))
          clear hf hk
          repeat (go_big_quiet_step ((go_at_call 37; first
            | exact (contains_val _ fr A2 cap2 _ yn ys _ _ rfl (h21.below ((HF.out _).mono hWs)) (Nat.le_trans hWs (HF.out _).size) (by omega) HI.out).mono fun _ _ hh => ⟨hh.1, hx _ _ hh.2⟩
            | exact (contains_val _ (l.take m) _ _ m yn ys _ _ htl (hp1.below ((HF.out _).mono hWs)) (Nat.le_trans hWs (HF.out _).size) (by omega) HO.out).mono fun _ _ hh => ⟨hh.1, hx _ _ hh.2⟩)))
          refine wpQuiet_nil ?_
          intro i
          have hBi := HB.out i
          simp only [Seg.Walk]
          go_wp2_with fail
          go_roundw
          case rel => exact ⟨m + 1, by omega, by go_num, by first | (rw [HAS.out]; done) | (rw [HAS.out]; go_num), hBi⟩
          case measure => simp [intOf]; omega
    · have hml : l.take m = l := by rw [List.take_of_length_le]; omega
      rw [hml]
      clear h h2 hml
      go_wp2_with fail
      go_ret
      exact ⟨rfl, hb⟩

set_option maxHeartbeats 1000000 in
theorem acked_any (l fr : List Pl) (a : Int) (A A2 : Option Addr) (cap cap2 : Nat) (B : Nat) (w : World) (h : PR w B A l) (h2 : PR w B A2 fr) (hB : B ≤ w.heap.size) (hc : l.length ≤ cap) (hl : l.length ≤ 100000) (hr : fr.length ≤ 100000) :
    Calls Try.prog 22 #[.slice A l.length cap, .int .i64 a, .slice A2 fr.length cap2] w fun e w' => e = .returned (.bool (ackedB l a fr)) ∧ Below w.heap.size w w' := by
  by_cases ha : 1 ≤ a
  · go_enter Try.func22, Try.ntmps22
    go_wp2_with (go_at_call 48; refine (count_any l fr A A2 cap cap2 B _ h h2 hB hc hl hr).mono ?_; rintro e w1 ⟨rfl, hb1⟩)
    go_ret
    exact ⟨ret_bool (by unfold ackedB; simp [ha]), hb1⟩
  · clear h h2
    go_enter Try.func22, Try.ntmps22
    go_wp2_with fail
    go_ret
    exact ⟨ret_bool (by unfold ackedB; simp; omega), Below.refl _ _⟩

set_option maxHeartbeats 1000000 in
theorem missing_any (l fr : List Pl) (W a : Int) (A A2 : Option Addr) (cap cap2 : Nat) (B : Nat) (w : World) (h : PR w B A l) (h2 : PR w B A2 fr) (hB : B ≤ w.heap.size) (hc : l.length ≤ cap) (hl : l.length ≤ 100000) (hr : fr.length ≤ 100000)
    (hw1 : -1000000 ≤ W) (hw2 : W ≤ 1000000) (ha1 : -1000000 ≤ a) (ha2 : a ≤ 1000000) :
    Calls Try.prog 24 #[.slice A l.length cap, .int .i64 W, .int .i64 a, .slice A2 fr.length cap2] w fun e w' => e = .returned (.bool (missB l W a fr)) ∧ Below w.heap.size w w' := by
  by_cases ha : W < a
  · clear h h2
    go_enter Try.func24, Try.ntmps24
    go_wp2_with fail
    go_ret
    exact ⟨ret_bool (by unfold missB; simp [ha]), Below.refl _ _⟩
  · go_enter Try.func24, Try.ntmps24
    go_wp2_with (go_at_call 48; refine (count_any l fr A A2 cap cap2 B _ h h2 hB hc hl hr).mono ?_; rintro e w1 ⟨rfl, hb1⟩)
    go_ret
    exact ⟨ret_bool (by unfold missB; rw [decide_eq_decide]; exact ⟨.inr, fun h => h.resolve_left (by omega)⟩), hb1⟩

end Go.Proofs.Ytcmidhecmhbeoaa
