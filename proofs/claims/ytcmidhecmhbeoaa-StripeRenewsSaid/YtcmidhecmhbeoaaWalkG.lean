/- Chapter 14: which places are picked. -/
import Derived.Test.YtcmidhecmhbeoaaWalkF
namespace Go.Proofs.Ytcmidhecmhbeoaa
open Go.RowKit

def pstep (e : Int) (nt : List Int) (a : List Pl) (x : Pl) : List Pl := if (decide ((a.length : Int) < e) && !decide (x.n ∈ a.map (·.n)) && !decide (x.n ∈ nt)) = true then a ++ [x] else a
def pickL (e : Int) (nt : List Int) (l : List Pl) : List Pl := l.foldl (pstep e nt) []
theorem pickL_snoc (e : Int) (nt : List Int) (l : List Pl) (x : Pl) : pickL e nt (l ++ [x]) = pstep e nt (pickL e nt l) x := by simp [pickL, List.foldl_append]
theorem pstep_len (e : Int) (nt : List Int) (a : List Pl) (x : Pl) : (pstep e nt a x).length ≤ a.length + 1 := by unfold pstep; split <;> simp
theorem pickL_len (e : Int) (nt : List Int) (l : List Pl) : (pickL e nt l).length ≤ l.length := by
  have h : ∀ (l a : List Pl), (l.foldl (pstep e nt) a).length ≤ a.length + l.length := by
    intro l
    induction l with
    | nil => intro a; simp
    | cons y l ih =>
      intro a
      rw [List.foldl_cons]
      have := pstep_len e nt a y
      have := ih (pstep e nt a y)
      simp only [List.length_cons]; omega
  have := h l []
  unfold pickL
  simpa using this
def pickP (l : List Pl) (e W : Int) (nt : List Int) : List Pl × Int :=
  if W < 1 ∨ e < W ∨ 5 < e then ([], 1) else if ((pickL e nt l).length : Int) < W then ([], 3) else (pickL e nt l, 0)

/-- A row of a call's own and an error, handed back. -/
def GivesE (w : World) (p : List Pl × Int) (e : Ending) (w' : World) : Prop :=
  ∃ A' c', e = .returned (.tuple #[.slice A' p.1.length c', .int .i64 p.2]) ∧ Below w.heap.size w w' ∧ p.1.length ≤ c' ∧ c' ≤ maxLen ∧ w'.ownsRow w.heap.size 37 2 (.slice A' p.1.length c') p.1.length (p.1.flatMap Pl.cs)
theorem givesE_nil {w w' : World} (n : Int) (h : Below w.heap.size w w') : GivesE w ([], n) (.returned (.tuple #[.slice none 0 0, .int .i64 n])) w' := ⟨none, 0, rfl, h, Nat.le_refl _, Nat.zero_le _, rfl, .inl ⟨rfl, rfl⟩⟩

theorem pl_cell_new (w : World) (n s : Int) : ∀ (j : Nat) u, (Pl.cs ⟨n, s⟩)[j]? = some u → (w.alloc (.cells #[.int .i64 n, .int .u64 s] 37)).cell? ((⟨w.heap.size, 0, none⟩ : Addr).add j) = some u := by
  intro j u hj
  match j, hj with
  | 0, hj => simp [Pl.cs] at hj; subst hj; simp [go_sem]
  | 1, hj => simp [Pl.cs] at hj; subst hj; simp [go_sem]
theorem pl_one1 (n s : Int) : ∀ u ∈ Pl.cs ⟨n, s⟩, u.oneCell' = true := by have := pl_one [⟨n, s⟩]; simpa using this

theorem own_below {B : Nat} {e : TypeId} {k : Nat} {v : Value} {n : Nat} {xs : List Value} {w w' : World} (h : w.ownsRow B e k v n xs) (hb : Below w.heap.size w w') : w'.ownsRow B e k v n xs := by
  obtain ⟨h1, h2⟩ := h
  refine ⟨h1, ?_⟩
  rcases h2 with h2 | ⟨g, cap, cur, a, b, c, d⟩
  · exact .inl h2
  · refine .inr ⟨g, cap, cur, a, b, ?_, d⟩
    have hg : g < w.heap.size := by
      rcases Nat.lt_or_ge g w.heap.size with hh | hh
      · exact hh
      · rw [Array.getElem?_eq_none hh] at c; cases c
    exact (hb.block g hg).trans c

theorem containsI_val (v : Bool) (l : List Int) (A : Option Addr) (cap : Nat) (x : Int) (B : Nat) (w : World) (h : Reads w B 1 A l.length (l.map (.int .i64))) (hl : l.length ≤ 1000000) (hv : decide (x ∈ l) = v) :
    Calls Try.prog 51 #[.slice A l.length cap, .int .i64 x] w fun e w' => e = .returned (.bool v) ∧ w = w' := by
  rw [← hv]; exact containsI_any l A cap x B w h hl

set_option maxHeartbeats 2000000 in
theorem pick_any (l : List Pl) (nt : List Int) (e W : Int) (A A2 : Option Addr) (cap cap2 : Nat) (B : Nat) (w : World) (h : PR w B A l) (h2 : Reads w B 1 A2 nt.length (nt.map (.int .i64))) (hB : B ≤ w.heap.size) (hl : l.length ≤ 100000) (hl2 : nt.length ≤ 100000) :
    Calls Try.prog 27 #[.slice A l.length cap, .int .i64 e, .int .i64 W, .slice A2 nt.length cap2] w fun e' w' => GivesE w (pickP l e W nt) e' w' := by
  obtain ⟨i0, hi, hz0, hz1, hz2⟩ := info_parts info37
  have h := h.more hB
  have h2 := h2.more hB
  clear hB
  by_cases hbad : W < 1 ∨ e < W ∨ 5 < e
  · have hp : pickP l e W nt = ([], 1) := by unfold pickP; rw [if_pos hbad]
    rw [hp]
    clear h h2 hp
    by_cases h1 : W < 1
    · clear hbad
      go_enter Try.func27, Try.ntmps27
      go_wp2_with fail
      refine bodyPost_ret (v := .tuple #[.slice none 0 0, .int .i64 1]) (by simp [results, Try.results27, go_sem]) rfl (givesE_nil 1 (Below.refl _ _))
    · by_cases h2 : e < W
      · clear hbad
        go_enter Try.func27, Try.ntmps27
        go_wp2_with fail
        refine bodyPost_ret (v := .tuple #[.slice none 0 0, .int .i64 1]) (by simp [results, Try.results27, go_sem]) rfl (givesE_nil 1 (Below.refl _ _))
      · have h3 : 5 < e := by omega
        clear hbad
        go_enter Try.func27, Try.ntmps27
        go_wp2_with fail
        refine bodyPost_ret (v := .tuple #[.slice none 0 0, .int .i64 1]) (by simp [results, Try.results27, go_sem]) rfl (givesE_nil 1 (Below.refl _ _))
  · have hp : pickP l e W nt = if ((pickL e nt l).length : Int) < W then ([], 3) else (pickL e nt l, 0) := by unfold pickP; rw [if_neg hbad]
    have HPP := Lib.hid hp
    have hw1 : 1 ≤ W := by omega
    have hw2 : W ≤ e := by omega
    have hw3 : e ≤ 5 := by omega
    clear hp hbad
    go_enter Try.func27, Try.ntmps27
    go_wp2
    go_loopw [10, 12, 13, 27] (fun s _ _ i wr => ∃ m : Nat, m ≤ l.length ∧ i = .int .i64 m ∧ wr.ownsRow w.heap.size 37 2 s (pickL e nt (l.take m)).length ((pickL e nt (l.take m)).flatMap Pl.cs) ∧ Below w.heap.size w wr) (fun _ _ _ i _ => l.length - (intOf i).toNat)
    case atStart => exact ⟨0, Nat.zero_le _, rfl, ⟨rfl, .inl ⟨rfl, rfl⟩⟩, Below.refl _ _⟩
    case round =>
      obtain ⟨m, hm, rfl, hown, hb⟩ := hrel
      obtain ⟨A3, c3, rfl, hc2, hc3⟩ := own_form hown
      obtain ⟨P, hP⟩ : ∃ P, pickL e nt (l.take m) = P := ⟨_, rfl⟩
      have hPl : P.length ≤ 100000 := by rw [← hP]; have := pickL_len e nt (l.take m); simp at this; omega
      by_cases hlt : m < l.length
      · obtain ⟨b, o, yn, ys, rfl, hB, hy, y0, y1⟩ := pl_elem (h.below hb) hlt
        have hts := take_snoc? hy
        have hps := pickL_snoc e nt (l.take m) ⟨yn, ys⟩
        rw [← hts, hP] at hps
        unfold pstep at hps
        rw [hP] at hown hc2 ⊢
        have hsz := hb.size
        have hb1 := hb.alloc hb.size (.cells #[.int .i64 yn, .int .u64 ys] 37)
        have hk := Blk.new wr 37 #[.int .i64 yn, .int .u64 ys]
        have HPS := Lib.hid hps
        have HO := Lib.hid (hown.alloc (.cells #[.int .i64 yn, .int .u64 ys] 37))
        have H2 := Lib.hid h2
        clear hP hts hps hown hy h h2
        go_wp2_with fail
        generalize wr.alloc (.cells #[.int .i64 yn, .int .u64 ys] 37) = W1 at hb1 hk HO ⊢
        have hs1 := hb1.size
        have hgl := hk.lt
        clear y0 y1 hb
        refine (pickhas_any P A3 c3 yn wr.heap.size _ W1 (Reads.of_own HO.out) (Nat.le_refl _) (by omega) hgl (hk.cell 0)).mono ?_
        rintro e1 w1 ⟨rfl, hb2⟩
        have hb3 := hb1.trans (hb2.mono hs1)
        have hk1 := hk.below hb2 hgl
        have hgl1 := hk1.lt
        have ho1 := own_below HO.out hb2
        obtain ⟨c0, c1⟩ := blk_cell2 hk1
        have HO1 := Lib.hid ho1
        have HH2 := Lib.hid (H2.out.below hb3)
        have hsz3 := hb3.size
        clear ho1 HO H2 hk hk1 hb1 hb2
        obtain ⟨d1, hd1⟩ : ∃ d, decide ((P.length : Int) < e) = d := ⟨_, rfl⟩
        obtain ⟨d2, hd2⟩ : ∃ d, decide (yn ∈ P.map (·.n)) = d := ⟨_, rfl⟩
        obtain ⟨d3, hd3⟩ : ∃ d, decide (yn ∈ nt) = d := ⟨_, rfl⟩
        have hps := HPS.out
        rw [hd1, hd2, hd3] at hps
        rw [hd2]
        have HD3 := Lib.hid hd3
        clear hd2 hd3 HPS
        by_cases hgo : (d1 && !d2 && !d3) = true
        · rw [if_pos hgo] at hps
          simp only [Bool.and_eq_true, Bool.not_eq_true'] at hgo
          obtain ⟨⟨rfl, rfl⟩, rfl⟩ := hgo
          have HPS := Lib.hid hps
          clear hps
          go_wp2_with (first
            | (go_at_call 51; refine (containsI_val false nt A2 cap2 yn w.heap.size _ HH2.out (by omega) HD3.out).mono ?_; rintro e w' ⟨rfl, rfl⟩)
            | (at_builtin; (refine wpList_append_own _ rfl (.tmp 49) (.tmp 51) 23 rfl w.heap.size 37 i0 _ 2 16 Try.underlying23 hi hz0 hz1 hz2 rfl (by decide) _ P.length _ rfl (HO1.out.alloc _) ⟨w1.heap.size, 0, none⟩ 1 1 (Pl.cs ⟨yn, ys⟩) rfl rfl ?c1 ?c2 ?c3 ?c4 ?c5 ?_)))
          case c1 => exact pl_cell_new w1 yn ys
          case c2 => exact pl_one1 yn ys
          case c3 => simp only [maxLen]; omega
          case c4 => omega
          case c5 => simp; omega
          intro v' w2 hown' hgrow _
          have hb4 : Below w.heap.size w w2 := (hb3.alloc hsz3 _).grown hgrow (by simp; omega) (fun k hk => (HO1.out.lt k hk).1)
          have HO2 := Lib.hid hown'
          clear hown' hgrow HO1
          go_wp2_with fail
          go_roundw
          case rel => exact ⟨m + 1, by omega, by go_num, by rw [HPS.out]; simpa using HO2.out, hb4⟩
          case measure => simp [intOf]; omega
        · rw [if_neg hgo] at hps
          have HPS := Lib.hid hps
          clear hps
          have hor : d1 = false ∨ (d1 = true ∧ d2 = true) ∨ (d1 = true ∧ d2 = false ∧ d3 = true) := by
            cases d1 <;> cases d2 <;> cases d3 <;> simp at hgo ⊢
          clear hgo
          rcases hor with rfl | ⟨rfl, rfl⟩ | ⟨rfl, rfl, rfl⟩
          all_goals
            go_wp2_with (go_at_call 51; refine (containsI_val true nt A2 cap2 yn w.heap.size _ HH2.out (by omega) HD3.out).mono ?_; rintro e w' ⟨rfl, rfl⟩)
            go_roundw
            case rel => exact ⟨m + 1, by omega, by go_num, by rw [HPS.out]; exact HO1.out, hb3⟩
            case measure => simp [intOf]; omega
      · have hml : l.take m = l := by rw [List.take_of_length_le]; omega
        rw [hml] at hP
        rw [hml, hP] at hown hc2 ⊢
        have hc2' := hc2
        have hpp := HPP.out
        rw [hP] at hpp
        have HO := Lib.hid hown
        clear h h2 hown HPP hP hml
        by_cases hPW : (P.length : Int) < W
        · rw [if_pos hPW] at hpp
          have HP := Lib.hid hpp
          clear hpp
          go_wp2_with fail
          refine bodyPost_ret (v := .tuple #[.slice none 0 0, .int .i64 3]) (by simp [results, Try.results27, go_sem]) rfl (by rw [HP.out]; exact givesE_nil 3 hb)
        · rw [if_neg hPW] at hpp
          have HP := Lib.hid hpp
          clear hpp
          go_wp2_with fail
          refine bodyPost_ret (v := .tuple #[.slice A3 P.length c3, .int .i64 0]) (by simp [results, Try.results27, go_sem]) rfl (by rw [HP.out]; exact ⟨A3, c3, rfl, hb, hc2', hc3, HO.out⟩)
end Go.Proofs.Ytcmidhecmhbeoaa
