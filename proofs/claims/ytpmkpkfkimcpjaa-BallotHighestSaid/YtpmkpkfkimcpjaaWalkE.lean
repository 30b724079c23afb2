/- Chapter 06, the highest of promises: what Highest, its greatest and its order compute; what the reference's Highest computes. -/
import Derived.Test.YtpmkpkfkimcpjaaWalkD
namespace Go.Proofs.Ytpmkpkfkimcpjaa
open Go.RowKit

structure Prm where
  f : Int
  p : Bal
  a : Bal
  A : Option Addr
  n : Nat
  c : Nat
  bs : List Int
def Prm.cs (x : Prm) : List Value := [.int .i64 x.f, .int .u64 x.p.r, .int .i64 x.p.n, .int .u64 x.p.i, .int .u64 x.a.r, .int .i64 x.a.n, .int .u64 x.a.i, .slice x.A x.n x.c]
theorem prm_len (x : Prm) : x.cs.length = 8 := rfl
theorem prm_one (l : List Prm) : ∀ u ∈ l.flatMap Prm.cs, u.oneCell' = true := by
  intro u hu
  obtain ⟨b, _, hb⟩ := List.mem_flatMap.1 hu
  simp only [Prm.cs, List.mem_cons, List.not_mem_nil, or_false] at hb
  rcases hb with rfl | rfl | rfl | rfl | rfl | rfl | rfl | rfl <;> rfl
def Prm.zero : Prm := ⟨0, Bal.zero, Bal.zero, none, 0, 0, []⟩
def gstepP (x : Option Prm) (y : Prm) : Option Prm := match x with | none => some y | some x => if cmpB x.a y.a < 0 then some y else some x
def greatP (l : List Prm) : Option Prm := l.foldl gstepP none
theorem greatP_some {l : List Prm} (h : l ≠ []) : greatP l ≠ none := by
  have hs : ∀ (l : List Prm) (z : Prm), l.foldl gstepP (some z) ≠ none := by
    intro l
    induction l with
    | nil => intro z; simp
    | cons y l ih =>
      intro z
      simp only [List.foldl_cons]
      by_cases hc : cmpB z.a y.a < 0
      · rw [show gstepP (some z) y = some y by simp [gstepP, hc]]; exact ih _
      · rw [show gstepP (some z) y = some z by simp [gstepP, hc]]; exact ih _
  cases l with
  | nil => exact absurd rfl h
  | cons y l => exact hs l y
theorem greatP_snoc (l : List Prm) (y : Prm) : greatP (l ++ [y]) = gstepP (greatP l) y := by simp [greatP, List.foldl_append]
def nzB (x : Prm) : Bool := !decide (x.a = Bal.zero)
def highP (l : List Prm) : Option Prm := greatP (l.filter nzB)
theorem highP_snoc (l : List Prm) (y : Prm) : highP (l ++ [y]) = if nzB y = true then gstepP (highP l) y else highP l := by
  unfold highP
  rw [List.filter_append]
  by_cases h : nzB y = true
  · rw [if_pos h, List.filter_cons_of_pos h, List.filter_nil, greatP_snoc]
  · rw [if_neg h, List.filter_cons_of_neg (by simpa using h), List.filter_nil, List.append_nil]

theorem info51 : (Try.prog.info? 51).map (fun i => (i.zero, i.size, i.bytes)) = some (some (.agg #[.int .i64 0, .int .u64 0, .int .i64 0, .int .u64 0, .int .u64 0, .int .i64 0, .int .u64 0, .slice none 0 0]), 8, 80) := by kernel_rfl
theorem info5 : (Try.prog.info? 5).map (fun i => (i.zero, i.size, i.bytes)) = some (some (.int .u8 0), 1, 1) := by kernel_rfl

theorem blk_cell8 {w : World} {g : Nat} {t : TypeId} {v0 v1 v2 v3 v4 v5 v6 v7 : Value} (h : Blk w g t #[v0, v1, v2, v3, v4, v5, v6, v7]) :
    w.cell? ⟨g, 0, none⟩ = some v0 ∧ w.cell? ⟨g, 1, none⟩ = some v1 ∧ w.cell? ⟨g, 2, none⟩ = some v2 ∧ w.cell? ⟨g, 3, none⟩ = some v3 ∧ w.cell? ⟨g, 4, none⟩ = some v4 ∧ w.cell? ⟨g, 5, none⟩ = some v5 ∧ w.cell? ⟨g, 6, none⟩ = some v6 ∧ w.cell? ⟨g, 7, none⟩ = some v7 :=
  ⟨h.cell 0, h.cell 1, h.cell 2, h.cell 3, h.cell 4, h.cell 5, h.cell 6, h.cell 7⟩

set_option maxHeartbeats 400000 in
theorem by_any (x y : Prm) (w : World) :
    Calls Try.prog 36 #[.agg x.cs.toArray, .agg y.cs.toArray] w fun e w' => e = .returned (.int .i64 (cmpB x.a y.a)) ∧ Below w.heap.size w w' := by
  unfold Prm.cs
  go_enter Try.func36, Try.ntmps36
  go_wp2_with fail
  refine (cmp_any _ _ _ _ _ _ _).mono ?_
  rintro e w1 ⟨rfl, hb1⟩
  go_wp2_with fail
  go_ret
  exact ⟨rfl, ((((Below.refl _ _).alloc (Nat.le_refl _) _).alloc (by simp) _)).trans (hb1.mono (by simp; omega))⟩

def mkP (f r n i ar an ai : Int) (A : Option Addr) (k c : Nat) (bs : List Int) : Prm := ⟨f, ⟨r, n, i⟩, ⟨ar, an, ai⟩, A, k, c, bs⟩
theorem mkP_cs (f r n i ar an ai : Int) (A : Option Addr) (k c : Nat) (bs : List Int) : (mkP f r n i ar an ai A k c bs).cs.toArray = #[.int .i64 f, .int .u64 r, .int .i64 n, .int .u64 i, .int .u64 ar, .int .i64 an, .int .u64 ai, .slice A k c] := rfl
theorem mkP_ex (x : Prm) : ∃ f r n i ar an ai A k c bs, x = mkP f r n i ar an ai A k c bs := ⟨x.f, x.p.r, x.p.n, x.p.i, x.a.r, x.a.n, x.a.i, x.A, x.n, x.c, x.bs, rfl⟩
theorem pcs_eq {x : Prm} {f r n i ar an ai : Int} {A : Option Addr} {k c : Nat} {bs : List Int} (h : x = mkP f r n i ar an ai A k c bs) : x.cs.toArray = #[.int .i64 f, .int .u64 r, .int .i64 n, .int .u64 i, .int .u64 ar, .int .i64 an, .int .u64 ai, .slice A k c] := by rw [h]; rfl
theorem blk_set8 {w : World} {g : Nat} {t : TypeId} {a0 a1 a2 a3 a4 a5 a6 a7 : Value} (h : Blk w g t #[a0, a1, a2, a3, a4, a5, a6, a7]) (v0 v1 v2 v3 v4 v5 v6 v7 : Value) :
    Blk ((((((((w.setCell ⟨g, 0, none⟩ v0).setCell ⟨g, 1, none⟩ v1).setCell ⟨g, 2, none⟩ v2).setCell ⟨g, 3, none⟩ v3).setCell ⟨g, 4, none⟩ v4).setCell ⟨g, 5, none⟩ v5).setCell ⟨g, 6, none⟩ v6).setCell ⟨g, 7, none⟩ v7) g t #[v0, v1, v2, v3, v4, v5, v6, v7] := by
  have := (((((((h.set_ 0 v0).set_ 1 v1).set_ 2 v2).set_ 3 v3).set_ 4 v4).set_ 5 v5).set_ 6 v6).set_ 7 v7
  simpa using this
theorem below_set8 {B : Nat} {a w : World} (h : Below B a w) {g : Nat} (hg : B ≤ g) (v0 v1 v2 v3 v4 v5 v6 v7 : Value) :
    Below B a ((((((((w.setCell ⟨g, 0, none⟩ v0).setCell ⟨g, 1, none⟩ v1).setCell ⟨g, 2, none⟩ v2).setCell ⟨g, 3, none⟩ v3).setCell ⟨g, 4, none⟩ v4).setCell ⟨g, 5, none⟩ v5).setCell ⟨g, 6, none⟩ v6).setCell ⟨g, 7, none⟩ v7) :=
  (((((((h.setCell (p := ⟨g, 0, none⟩) hg v0).setCell (p := ⟨g, 1, none⟩) hg v1).setCell (p := ⟨g, 2, none⟩) hg v2).setCell (p := ⟨g, 3, none⟩) hg v3).setCell (p := ⟨g, 4, none⟩) hg v4).setCell (p := ⟨g, 5, none⟩) hg v5).setCell (p := ⟨g, 6, none⟩) hg v6).setCell (p := ⟨g, 7, none⟩) hg v7
theorem below_set8_alloc {B : Nat} {a w : World} (h : Below B a w) {g : Nat} (hg : B ≤ g) (hB : B ≤ w.heap.size) (v0 v1 v2 v3 v4 v5 v6 v7 : Value) (o : Obj) :
    Below B a (((((((((w.setCell ⟨g, 0, none⟩ v0).setCell ⟨g, 1, none⟩ v1).setCell ⟨g, 2, none⟩ v2).setCell ⟨g, 3, none⟩ v3).setCell ⟨g, 4, none⟩ v4).setCell ⟨g, 5, none⟩ v5).setCell ⟨g, 6, none⟩ v6).setCell ⟨g, 7, none⟩ v7).alloc o) :=
  (below_set8 h hg v0 v1 v2 v3 v4 v5 v6 v7).alloc (by simp only [size_setCell]; exact hB) o

set_option maxHeartbeats 2000000 in
theorem greatestP_any (l : List Prm) (A : Option Addr) (cap : Nat) (w : World) (h : Reads w w.heap.size 8 A l.length (l.flatMap Prm.cs)) (hl : l.length ≤ 100000) :
    Calls Try.prog 35 #[.slice A l.length cap, .func (.func 36) #[] #[]] w fun e w' => e = .returned (.tuple #[.agg ((greatP l).getD Prm.zero).cs.toArray, .bool (greatP l).isSome]) ∧ Below w.heap.size w w' := by
  go_enter Try.func35, Try.ntmps35
  go_wp2
  go_loopw [5, 6, 7, 10] (fun ok i y k wr => ∃ m : Nat, m ≤ l.length ∧ k = .int .i64 m ∧ ok = .bool (greatP (l.take m)).isSome ∧ Blk wr w.heap.size 51 ((greatP (l.take m)).getD Prm.zero).cs.toArray ∧ Below w.heap.size w wr) (fun _ _ _ k _ => l.length - (intOf k).toNat)
  case atStart => exact ⟨0, Nat.zero_le _, rfl, rfl, Blk.new _ _ _, (Below.refl _ _).alloc (Nat.le_refl _) _⟩
  case round =>
    obtain ⟨m, hm, rfl, rfl, hk, hb⟩ := hrel
    have hlt2 := hk.lt
    have hf := fun i => hk.frozen i
    obtain ⟨xf, xr, xn, xi, xar, xan, xai, xA, xk, xc, xbs, hx⟩ := mkP_ex ((greatP (l.take m)).getD Prm.zero)
    rw [pcs_eq hx] at hk
    obtain ⟨c0, c1, c2, c3, c4, c5, c6, c7⟩ := blk_cell8 hk
    by_cases hlt : m < l.length
    · obtain ⟨b, o, rfl, hB, hc⟩ := (h.below hb).elem prm_len hlt (by omega)
      obtain ⟨yf, yr, yn, yi, yar, yan, yai, yA, yk, yc, ybs, hy⟩ := mkP_ex l[m]
      rw [hy] at hc
      have y0 := hc 0 _ (by omega) rfl
      have y1 := hc 1 _ (by omega) rfl
      have y2 := hc 2 _ (by omega) rfl
      have y3 := hc 3 _ (by omega) rfl
      have y4 := hc 4 _ (by omega) rfl
      have y5 := hc 5 _ (by omega) rfl
      have y6 := hc 6 _ (by omega) rfl
      have y7 := hc 7 _ (by omega) rfl
      rw [Nat.add_zero] at y0
      dsimp only [mkP] at y0 y1 y2 y3 y4 y5 y6 y7
      have hts : greatP (l.take (m + 1)) = gstepP (greatP (l.take m)) (mkP yf yr yn yi yar yan yai yA yk yc ybs) := by rw [take_snoc' l m hlt, greatP_snoc, hy]
      have hsome : (greatP (l.take (m + 1))).isSome = true := by
        rw [hts]
        unfold gstepP
        cases greatP (l.take m) with
        | none => rfl
        | some z => by_cases hc : cmpB z.a (mkP yf yr yn yi yar yan yai yA yk yc ybs).a < 0 <;> simp [hc]
      have HT := Lib.hid hts
      have HS := Lib.hid hsome
      have HX := Lib.hid hx
      have HK := Lib.hid hk
      clear hx hy hk h hts hc hsome
      by_cases h0 : m = 0
      · have h0' : ((m : Int) == 0) = true := by simp [h0]
        have hg : greatP (l.take (m + 1)) = some (mkP yf yr yn yi yar yan yai yA yk yc ybs) := by rw [HT.out, h0]; rfl
        have HG := Lib.hid hg
        clear hg h0
        go_wp2_with fail
        go_roundw
        case rel =>
          refine ⟨m + 1, by omega, by go_num, by rw [HG.out]; rfl, ?_, ?_⟩
          · rw [pcs_eq (show (greatP (l.take (m + 1))).getD Prm.zero = _ by rw [HG.out]; rfl)]; exact (blk_set8 HK.out _ _ _ _ _ _ _ _).alloc _
          · exact below_set8_alloc hb (Nat.le_refl _) hb.size _ _ _ _ _ _ _ _ _
        case measure => simp [intOf]; omega
      · have h0' : ((m : Int) == 0) = false := by simp [h0]
        have hsm : ∃ z, greatP (l.take m) = some z := by
          cases hz : greatP (l.take m) with
          | some z => exact ⟨z, rfl⟩
          | none => exact absurd hz (greatP_some (by
              intro hc
              rcases List.take_eq_nil_iff.1 hc with hc | hc
              · exact h0 hc
              · rw [hc] at hlt; simp at hlt))
        obtain ⟨z, hz⟩ := hsm
        have hzx : z = mkP xf xr xn xi xar xan xai xA xk xc xbs := by have := HX.out; rw [hz] at this; exact this
        rw [hzx] at hz
        clear hzx z
        have HZ := Lib.hid hz
        clear h0 hz
        go_wp2_with fail
        refine (by_any (mkP xf xr xn xi xar xan xai xA xk xc xbs) (mkP yf yr yn yi yar yan yai yA yk yc ybs) _).mono ?_
        rintro e w1 ⟨rfl, hb1⟩
        obtain ⟨hc1, hf1⟩ := bcell hb1
        have hz1 := hb1.size
        have HK1 := Lib.hid ((HK.out.alloc (Obj.cells #[Value.int .i64 yf, .int .u64 yr, .int .i64 yn, .int .u64 yi, .int .u64 yar, .int .i64 yan, .int .u64 yai, .slice yA yk yc] 51)).below hb1 (by simp; omega))
        have hbb := (hb.alloc hb.size (Obj.cells #[Value.int .i64 yf, .int .u64 yr, .int .i64 yn, .int .u64 yi, .int .u64 yar, .int .i64 yan, .int .u64 yai, .slice yA yk yc] 51)).trans (hb1.mono (by simp; omega))
        have hcv : (cmpB (mkP xf xr xn xi xar xan xai xA xk xc xbs).a (mkP yf yr yn yi yar yan yai yA yk yc ybs).a) = cmpB ⟨xar, xan, xai⟩ ⟨yar, yan, yai⟩ := rfl
        rw [hcv]
        by_cases hcc : cmpB ⟨xar, xan, xai⟩ ⟨yar, yan, yai⟩ < 0
        · have hg : greatP (l.take (m + 1)) = some (mkP yf yr yn yi yar yan yai yA yk yc ybs) := by rw [HT.out, HZ.out]; unfold gstepP; simp only []; exact if_pos hcc
          have HG := Lib.hid hg
          clear hg
          go_wp2_with fail
          go_roundw
          case rel =>
            refine ⟨m + 1, by omega, by go_num, by rw [HG.out]; rfl, ?_, ?_⟩
            · rw [pcs_eq (show (greatP (l.take (m + 1))).getD Prm.zero = _ by rw [HG.out]; rfl)]; exact blk_set8 HK1.out _ _ _ _ _ _ _ _
            · exact below_set8 hbb (Nat.le_refl _) _ _ _ _ _ _ _ _
          case measure => simp [intOf]; omega
        · have hg : greatP (l.take (m + 1)) = some (mkP xf xr xn xi xar xan xai xA xk xc xbs) := by rw [HT.out, HZ.out]; unfold gstepP; simp only []; exact if_neg hcc
          have HG := Lib.hid hg
          clear hg
          go_wp2_with fail
          go_roundw
          case rel =>
            refine ⟨m + 1, by omega, by go_num, by rw [HG.out, HZ.out], ?_, ?_⟩
            · rw [pcs_eq (show (greatP (l.take (m + 1))).getD Prm.zero = _ by rw [HG.out]; rfl)]; exact HK1.out
            · exact hbb
          case measure => simp [intOf]; omega
    · have hml : m = l.length := by omega
      have hx' : (greatP l).getD Prm.zero = mkP xf xr xn xi xar xan xai xA xk xc xbs := by rw [← hx, hml, List.take_length]
      have HX := Lib.hid hx'
      have ht : (greatP (l.take m)).isSome = (greatP l).isSome := by rw [hml, List.take_length]
      have HT := Lib.hid ht
      have HK := Lib.hid hk
      clear hx hml ht hx' hk h
      go_wp2
      have hz : w.heap.size < wr.heap.size := hlt2
      refine bodyPost_ret (v := .tuple #[.agg #[.int .i64 xf, .int .u64 xr, .int .i64 xn, .int .u64 xi, .int .u64 xar, .int .i64 xan, .int .u64 xai, .slice xA xk xc], .bool (greatP (l.take m)).isSome]) (by simp [results, Try.results35, go_sem, c0, c1, c2, c3, c4, c5, c6, c7]) rfl ⟨by rw [HX.out, HT.out]; rfl, ?_⟩
      exact below_set8 hb (Nat.le_refl _) _ _ _ _ _ _ _ _
end Go.Proofs.Ytpmkpkfkimcpjaa
