/- Chapter 05: two messages the same; how many are like one; whether acts are many. -/
import Derived.Test.YtfmflbcmigiciaaMine
namespace Go.Proofs.Ytfmflbcmigiciaa
open Go.RowKit

def strK (l : List Int) : List UInt8 := (strOfNums l).toList
def sameB (a b : Msg) : Bool := decide (a.f = b.f ∧ a.t = b.t ∧ strK a.bs = strK b.bs)

set_option maxHeartbeats 1000000 in
theorem same_any (a b : Msg) (Aa Ab : Option Addr) (ca cb : Nat) (B : Nat) (w : World) (ha : BR w B Aa a.bs) (hb : BR w B Ab b.bs) (hB : B ≤ w.heap.size) :
    Calls Try.prog 31 #[msgV a Aa ca, msgV b Ab cb] w fun e w' => e = .returned (.bool (sameB a b)) ∧ Below w.heap.size w w' := by
  have ha := ha.more hB
  have hb := hb.more hB
  clear hB
  unfold msgV
  have hbw : Below w.heap.size w ((w.alloc (.cells #[.int .i64 a.f, .int .i64 a.t, .slice Aa a.bs.length ca] 33)).alloc (.cells #[.int .i64 b.f, .int .i64 b.t, .slice Ab b.bs.length cb] 33)) := ((Below.refl _ _).alloc (Nat.le_refl _) _).alloc (by simp) _
  have hc1 := conv_str (ha.below hbw) ca
  have hc2 := conv_str (hb.below hbw) cb
  have HB := Lib.hid hbw
  clear ha hb hbw
  go_enter Try.func31, Try.ntmps31
  by_cases h1 : a.f = b.f
  · have d1 : (a.f == b.f) = true := by simpa using h1
    by_cases h2 : a.t = b.t
    · have d2 : (a.t == b.t) = true := by simpa using h2
      have H1 := Lib.hid h1
      have H2 := Lib.hid h2
      clear h1 h2
      go_wp2_with fail
      go_ret
      refine ⟨ret_bool ?_, HB.out⟩
      unfold sameB strK
      simp only [H1.out, H2.out, true_and]
      exact (Bool.beq_eq_decide_eq _ _)
    · have d2 : (a.t == b.t) = false := by simpa using h2
      have H2 := Lib.hid h2
      clear h1 h2
      go_wp2_with fail
      go_ret
      exact ⟨ret_bool (decide_eq_false fun h => H2.out h.2.1).symm, HB.out⟩
  · have d1 : (a.f == b.f) = false := by simpa using h1
    have H1 := Lib.hid h1
    clear h1
    go_wp2_with fail
    go_ret
    exact ⟨ret_bool (decide_eq_false fun h => H1.out h.1).symm, HB.out⟩

/-- How many are like one. -/
def cntP (ms : List Msg) (m : Msg) : Nat := ms.countP fun x => sameB x m
theorem cnt_snoc (ms : List Msg) (m : Msg) (k : Nat) (hk : k < ms.length) : cntP (ms.take (k + 1)) m = cntP (ms.take k) m + if sameB ms[k] m = true then 1 else 0 := by
  unfold cntP
  rw [List.take_succ_eq_append_getElem hk, List.countP_append, List.countP_singleton]
theorem cnt_le (ms : List Msg) (m : Msg) : cntP ms m ≤ ms.length := List.countP_le_length

set_option maxHeartbeats 2000000 in
theorem count_any (ms : List Msg) (rs : List Raw) (m : Msg) (R : Nat → Prop) (A Am : Option Addr) (c cm : Nat) (w : World) (h : MR w w.heap.size A rs) (hm : MsgsAt R w rs ms) (hb : BR w w.heap.size Am m.bs) (hl : ms.length ≤ 100000) :
    Calls Try.prog 14 #[.slice A ms.length c, msgV m Am cm] w fun e w' => e = .returned (.int .i64 (cntP ms m)) ∧ Below w.heap.size w w' := by
  have hlen := hm.1
  have H := Lib.hid h
  have HM := Lib.hid hm
  have HB := Lib.hid hb
  clear h hm hb
  unfold msgV
  go_enter Try.func14, Try.ntmps14
  go_wp2_with fail
  obtain ⟨W0, hW0⟩ : ∃ W0, W0 = w.alloc (.cells #[.int .i64 m.f, .int .i64 m.t, .slice Am m.bs.length cm] 33) := ⟨_, rfl⟩
  have hb0 : Below w.heap.size w W0 := by rw [hW0]; exact (Below.refl _ _).alloc (Nat.le_refl _) _
  have hk0 : Blk W0 w.heap.size 33 #[.int .i64 m.f, .int .i64 m.t, .slice Am m.bs.length cm] := by rw [hW0]; exact Blk.new _ _ _
  have hs0 : w.heap.size < W0.heap.size := by rw [hW0]; simp
  rw [← hW0]
  clear hW0
  go_loopw [5, 6] (fun v i wr => ∃ k : Nat, k ≤ ms.length ∧ i = .int .i64 k ∧ v = .int .i64 (cntP (ms.take k) m) ∧ Below W0.heap.size W0 wr) (fun _ i _ => ms.length - (intOf i).toNat)
  case atStart => exact ⟨0, Nat.zero_le _, rfl, by simp [cntP], Below.refl _ _⟩
  case round =>
    obtain ⟨k, hk, rfl, rfl, hbr⟩ := hrel
    by_cases hlt : k < ms.length
    · have d1 : decide ((k : Int) < ms.length) = true := decide_eq_true (by omega)
      have hbw := hb0.trans (hbr.mono hb0.size)
      obtain ⟨x, hx⟩ : ∃ x, x = ms[k] := ⟨_, rfl⟩
      obtain ⟨rA, rc, hr, hrd, hle⟩ := HM.out.get (show ms[k]? = some x by rw [hx]; exact List.getElem?_eq_getElem hlt)
      have hmr := H.out.below hbw
      have hrs : rs.length = ms.length := hlen
      obtain ⟨b, o, f', t', rA', n', c', hA, hBb, hr', y0, y1, y2⟩ := raw_elem hmr (show k < rs.length by omega)
      rw [hr] at hr'
      cases hr'
      subst hA
      have HXB := Lib.hid hrd.reads
      have HSN := Lib.hid (cnt_snoc ms m k hlt)
      have HX := Lib.hid hx
      have HKB := Lib.hid hk0
      have hbb : b < wr.heap.size := by have := hbw.size; omega
      have cb := cnt_le (ms.take k) m
      have ctl : (ms.take k).length = k := by rw [List.length_take]; omega
      rw [ctl] at cb
      obtain ⟨cn, hcn⟩ : ∃ cn, cn = cntP (ms.take k) m := ⟨_, rfl⟩
      rw [← hcn] at cb ⊢
      have HCN := Lib.hid hcn
      clear hr hrd hle hmr hx hcn ctl
      go_wp2_with fail
      obtain ⟨dv, hdv⟩ : ∃ dv, dv = sameB x m := ⟨_, rfl⟩
      have HDV := Lib.hid hdv
      refine Seg.region [(6, true)] (by kernel_rfl) (by kernel_rfl) ?_
      intro ι _ f hf hxx
      simp only [List.take_succ_cons, List.take_zero, List.drop_succ_cons, List.drop_zero]
      have hf := fun i => below_of_drew (hf i)
      have z0 : ∀ i, (f i).cell? ⟨b, o + k * 3, none⟩ = some (.int .i64 x.f) := fun i => ((hf i).cell (p := ⟨b, o + k * 3, none⟩) hbb).trans y0
      have z1 : ∀ i, (f i).cell? ⟨b, o + k * 3 + 1, none⟩ = some (.int .i64 x.t) := fun i => ((hf i).cell (p := ⟨b, o + k * 3 + 1, none⟩) hbb).trans y1
      have z2 : ∀ i, (f i).cell? ⟨b, o + k * 3 + 2, none⟩ = some (.slice rA x.bs.length rc) := fun i => ((hf i).cell (p := ⟨b, o + k * 3 + 2, none⟩) hbb).trans y2
      obtain ⟨c0, c1, c2⟩ := blk_cells3 (fun i => HKB.out.below (hbr.trans ((hf i).mono hbr.size)) hs0)
      have HF := Lib.hid (fun i => hbr.trans ((hf i).mono hbr.size))
      have HWF := Lib.hid (fun i => hbw.trans ((hf i).mono hbw.size))
      clear hf y0 y1 y2 hdv hbr hbw
      repeat (go_big_quiet_step ((go_at_call 31; exact (same_any x m rA Am rc cm w.heap.size _ (HXB.out.below (HWF.out _)) (HB.out.below (HWF.out _)) (HWF.out _).size).mono fun _ _ hh => ⟨hh.1, hxx _ _ hh.2⟩)))
      refine wpQuiet_nil ?_
      intro i
      have hfi := Lib.hid (HF.out i)
      simp only [Seg.Walk]
      rw [← HDV.out]
      cases dv with
      | true =>
        have hcs : cntP (ms.take (k + 1)) m = cn + 1 := by rw [HSN.out, ← HX.out, ← HDV.out, ← HCN.out]; rfl
        have HCS := Lib.hid hcs
        clear hcs
        go_wp2_with fail
        go_roundw
        case rel => exact ⟨k + 1, by omega, by go_num, by rw [HCS.out]; go_num, hfi.out⟩
        case measure => simp [intOf]; omega
      | false =>
        have hcs : cntP (ms.take (k + 1)) m = cn := by rw [HSN.out, ← HX.out, ← HDV.out, ← HCN.out]; rfl
        have HCS := Lib.hid hcs
        clear hcs
        go_wp2_with fail
        go_roundw
        case rel => exact ⟨k + 1, by omega, by go_num, by rw [HCS.out], hfi.out⟩
        case measure => simp [intOf]; omega
    · have d1 : decide ((k : Int) < ms.length) = false := decide_eq_false (by omega)
      have hkl : k = ms.length := by omega
      have ctk : ms.take k = ms := by rw [hkl]; exact List.take_length
      rw [ctk]
      have HBR := Lib.hid hbr
      clear ctk hkl hbr
      go_wp2_with fail
      go_ret
      exact ⟨rfl, hb0.trans (HBR.out.mono hb0.size)⟩
end Go.Proofs.Ytfmflbcmigiciaa
