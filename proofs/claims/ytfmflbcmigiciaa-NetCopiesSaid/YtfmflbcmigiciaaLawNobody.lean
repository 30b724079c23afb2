/- Chapter 05: a nil net, and one that New did not make, have nothing. -/
import Derived.Test.YtfmflbcmigiciaaAwake
namespace Go.Proofs.Ytfmflbcmigiciaa
open Go.RowKit

/-- Nobody's net: nil, or zero. -/
def NB (w : World) (p : Value) : Prop := p = .pointer none ∨ ∃ G, p = .pointer (some ⟨G, 0, none⟩) ∧ Blk w G 56 (netA (.slice none 0 0) 0 0 (fun _ _ => false))
theorem NB.below {w w' : World} {p : Value} (h : NB w p) (hb : Below w.heap.size w w') : NB w' p := by
  rcases h with rfl | ⟨G, rfl, h⟩
  · exact .inl rfl
  · exact .inr ⟨G, rfl, h.below hb h.lt⟩
theorem NB.nn {w : World} {p : Value} (h : NB w p) : NN w p 0 := by
  rcases h with rfl | ⟨G, rfl, h⟩
  · exact .inl ⟨rfl, rfl⟩
  · exact nn_blk h
theorem two0 (a b : Int) : twoB 0 a b = false := decide_eq_false (by omega)
theorem nb_at {w : World} {p : Value} (h : NB w p) (i : Int) : NoAt p i w := by
  rcases h with rfl | ⟨G, rfl, h⟩
  · exact noAt_nil i w
  · exact noAt_net h (decide_eq_false (by omega))
theorem nb_len {w : World} {p : Value} (h : NB w p) : Calls Try.prog 11 #[p] w fun e w' => e = .returned (.int .i64 0) ∧ w = w' := by
  rcases h with rfl | ⟨G, rfl, h⟩
  · exact len_nil w
  · exact len_any G 0 0 none 0 0 _ w h
theorem nb_find {w : World} {p : Value} (h : NB w p) (a b : Int) : Calls Try.prog 24 #[p, .int .i64 a, .int .i64 b] w fun e w' => e = .returned (.tuple #[.int .i64 0, .bool false]) ∧ Below w.heap.size w w' := by
  rcases h with rfl | ⟨G, rfl, h⟩
  · exact find_nil a b w
  · have := find_any G 0 none 0 0 a b (fun _ _ => false) [] w h Reads.none_ (by simp) (by decide)
    rw [findP_none (fun j _ h => by simp at h)] at this
    exact this
theorem nb_drop {w : World} {p : Value} (h : NB w p) (i : Int) : Calls Try.prog 15 #[p, .int .i64 i] w fun e w' => e = .returned (.int .i64 4) ∧ w = w' := by
  rcases h with rfl | ⟨G, rfl, h⟩
  · exact drop_nil i w
  · exact drop_no G 0 0 none 0 0 i _ w h (decide_eq_false (by omega))
theorem nb_cut {w : World} {p : Value} (h : NB w p) (a b : Int) : Calls Try.prog 18 #[p, .int .i64 a, .int .i64 b] w fun e w' => e = .returned (.int .i64 1) ∧ w = w' := by
  have C := Lib.hid (link_no p 0 a b true w h.nn (two0 a b))
  clear h
  go_enter Try.func18, Try.ntmps18
  go_wp2_with fail
  refine C.out.mono ?_
  rintro e w1 ⟨rfl, rfl⟩
  go_wp2_with fail
  go_ret
  exact ⟨rfl, rfl⟩
theorem nb_heal {w : World} {p : Value} (h : NB w p) (a b : Int) : Calls Try.prog 19 #[p, .int .i64 a, .int .i64 b] w fun e w' => e = .returned (.int .i64 1) ∧ w = w' := by
  have C := Lib.hid (link_no p 0 a b false w h.nn (two0 a b))
  clear h
  go_enter Try.func19, Try.ntmps19
  go_wp2_with fail
  refine C.out.mono ?_
  rintro e w1 ⟨rfl, rfl⟩
  go_wp2_with fail
  go_ret
  exact ⟨rfl, rfl⟩

/-- An act that came in. -/
structure Act5 where
  d : Int
  a : Int
  b : Int
  i : Int
  A : Option Addr
  n : Nat
  c : Nat
def Act5.cs (x : Act5) : List Value := [.int .i64 x.d, .int .i64 x.a, .int .i64 x.b, .int .i64 x.i, .slice x.A x.n x.c]

/-- What the round holds to: the act's own block, and the net. -/
structure NBx (v : World) (p : Value) (x : Act5) (b : Nat) : Prop where
  blk : Blk v b 41 #[.int .i64 x.d, .int .i64 x.a, .int .i64 x.b, .int .i64 x.i, .slice x.A x.n x.c]
  nb : NB v p
theorem NBx.below {v v' : World} {p : Value} {x : Act5} {b : Nat} (h : NBx v p x b) (hb : Below v.heap.size v v') : NBx v' p x b := ⟨h.blk.below hb h.blk.lt, h.nb.below hb⟩
theorem NBx.cells {v : World} {p : Value} {x : Act5} {b : Nat} (h : NBx v p x b) : v.cell? ⟨b, 1, none⟩ = some (.int .i64 x.a) ∧ v.cell? ⟨b, 2, none⟩ = some (.int .i64 x.b) ∧ v.cell? ⟨b, 3, none⟩ = some (.int .i64 x.i) ∧ v.cell? ⟨b, 4, none⟩ = some (.slice x.A x.n x.c) ∧ b < v.heap.size := ⟨h.blk.cell 1, h.blk.cell 2, h.blk.cell 3, h.blk.cell 4, h.blk.lt⟩

set_option maxRecDepth 100000 in
set_option maxHeartbeats 4000000 in
theorem lawNobody_any (x : Act5) (w : World) : Calls Try.prog 6 #[.agg #[.int .i64 x.d, .int .i64 x.a, .int .i64 x.b, .int .i64 x.i, .slice x.A x.n x.c]] w fun e w' => e = .returned (.bool true) ∧ Below w.heap.size w w' := by
  have hz := zero56
  have hzs := netZ_size
  have hze := netZ_eq
  have HZ := Lib.hid hze
  clear hze
  obtain ⟨Z, hZ⟩ : ∃ Z, Z = netZ := ⟨_, rfl⟩
  rw [← hZ] at hz hzs
  have HZZ := Lib.hid hZ
  clear hZ
  go_enter Try.func6, Try.ntmps6
  go_wp2_with fail
  obtain ⟨W0, hW0⟩ : ∃ W0, W0 = (((w.alloc (.cells #[.int .i64 x.d, .int .i64 x.a, .int .i64 x.b, .int .i64 x.i, .slice x.A x.n x.c] 41)).alloc (.cells Z 56)).alloc (.cells #[.pointer none, .pointer (some ⟨w.heap.size + 1, 0, none⟩)] 25)) := ⟨_, rfl⟩
  have hb0 : Below w.heap.size w W0 := by rw [hW0]; exact (((Below.refl _ _).alloc (Nat.le_refl _) _).alloc (by simp) _).alloc (by simp; omega) _
  have k0 : Blk W0 w.heap.size 41 #[.int .i64 x.d, .int .i64 x.a, .int .i64 x.b, .int .i64 x.i, .slice x.A x.n x.c] := by rw [hW0]; exact ((Blk.new _ _ _).alloc _).alloc _
  have k1 : Blk W0 (w.heap.size + 1) 56 Z := by rw [hW0]; exact (blk_newAt (by simp) _ _).alloc _
  have k2 : Blk W0 (w.heap.size + 1 + 1) 25 #[.pointer none, .pointer (some ⟨w.heap.size + 1, 0, none⟩)] := by rw [hW0]; exact blk_newAt (by simp) _ _
  rw [HZZ.out, HZ.out] at k1
  have hs0 : W0.heap.size = w.heap.size + 1 + 1 + 1 := by rw [hW0]; simp
  rw [← hW0]
  have K0 := Lib.hid k0
  have K1 := Lib.hid k1
  have K2 := Lib.hid k2
  clear hW0 hz hzs HZ HZZ k0 k1 k2
  go_loopw [5] (fun v wr => ∃ k : Nat, k ≤ 2 ∧ v = .int .i64 k ∧ Below W0.heap.size W0 wr) (fun v _ => 2 - (intOf v).toNat)
  case atStart => exact ⟨0, by decide, rfl, Below.refl _ _⟩
  case round =>
    obtain ⟨k, hk, rfl, hbr⟩ := hrel
    by_cases hlt : k < 2
    · have d1 : decide ((k : Int) < 2) = true := decide_eq_true (by omega)
      have hp : ∃ p, wr.cell? ⟨w.heap.size + 1 + 1, k, none⟩ = some p ∧ p.oneCell' = true ∧ NB wr p := by
        have q2 := K2.out.below hbr (by omega)
        have q1 := K1.out.below hbr (by omega)
        match k, hlt with
        | 0, _ => exact ⟨_, q2.cell 0, rfl, .inl rfl⟩
        | 1, _ => exact ⟨_, q2.cell 1, rfl, .inr ⟨_, rfl, q1⟩⟩
      obtain ⟨p, hpc, hp1, hnb⟩ := hp
      have N0 : Hid (NBx wr p x w.heap.size) := Lib.hid ⟨K0.out.below hbr (by omega), hnb⟩
      have HBR := Lib.hid hbr
      have hsr := hbr.size
      obtain ⟨a1, a2, a3, a4, al⟩ := N0.out.cells
      have hrl : w.heap.size + 1 + 1 < wr.heap.size := (K2.out.below hbr (by omega)).lt
      clear hnb hbr
      go_wp2_with fail
      have C := Lib.hid (nb_at N0.out.nb x.i wr (Below.refl _ _))
      refine C.out.mono ?_
      rintro e v1 ⟨rfl, hb⟩
      have hb := hb.trans (((Below.refl v1.heap.size v1).alloc (Nat.le_refl _) (.cells #[.int .i64 0, .int .i64 0, .slice none 0 0] 33)).mono hb.size)
      have N1 := Lib.hid (N0.out.below hb)
      have HB1 := Lib.hid hb
      unfold msg0
      clear hb N0 a1 a2 a3 a4 al C
      have hq1 := N1.out.cells
      obtain ⟨a1, a2, a3, a4, al⟩ := hq1
      go_wp2_with fail
      have C := Lib.hid (deliver_none p x.i _ (nb_at N1.out.nb x.i))
      refine C.out.mono ?_
      rintro e v2 ⟨rfl, hb⟩
      have hb := hb.trans (((Below.refl v2.heap.size v2).alloc (Nat.le_refl _) (.cells #[.int .i64 0, .int .i64 0, .slice none 0 0] 33)).mono hb.size)
      have N2 := Lib.hid (N1.out.below hb)
      have HB2 := Lib.hid (HB1.out.trans (hb.mono HB1.out.size))
      unfold msg0
      clear hb N1 HB1 a1 a2 a3 a4 al C
      obtain ⟨a1, a2, a3, a4, al⟩ := N2.out.cells
      go_wp2_with fail
      have C := Lib.hid (nb_find N2.out.nb x.a x.b)
      refine C.out.mono ?_
      rintro e v3 ⟨rfl, hb⟩
      have N3 := Lib.hid (N2.out.below hb)
      have HB3 := Lib.hid (HB2.out.trans (hb.mono HB2.out.size))
      clear hb N2 HB2 a1 a2 a3 a4 al C
      obtain ⟨a1, a2, a3, a4, al⟩ := N3.out.cells
      go_wp2_with fail
      have C := Lib.hid (nodes_any p 0 _ N3.out.nb.nn)
      refine C.out.mono ?_
      rintro e v9 ⟨rfl, hw⟩
      subst hw
      clear C
      go_wp2_with fail
      have C := Lib.hid (nb_len N3.out.nb)
      refine C.out.mono ?_
      rintro e v9 ⟨rfl, hw⟩
      subst hw
      clear C
      go_wp2_with fail
      have C := Lib.hid (open_no p 0 x.a x.b _ N3.out.nb.nn (two0 _ _))
      refine C.out.mono ?_
      rintro e v9 ⟨rfl, hw⟩
      subst hw
      clear C
      go_wp2_with fail
      have C := Lib.hid (nb_cut N3.out.nb x.a x.b)
      refine C.out.mono ?_
      rintro e v9 ⟨rfl, hw⟩
      subst hw
      clear C
      go_wp2_with fail
      have C := Lib.hid (nb_heal N3.out.nb x.a x.b)
      refine C.out.mono ?_
      rintro e v9 ⟨rfl, hw⟩
      subst hw
      clear C
      go_wp2_with fail
      have C := Lib.hid (send_arg p 0 x.a x.b x.A x.n x.c _ N3.out.nb.nn (two0 _ _))
      refine C.out.mono ?_
      rintro e v9 ⟨rfl, hw⟩
      subst hw
      clear C
      go_wp2_with fail
      have C := Lib.hid (nb_drop N3.out.nb x.i)
      refine C.out.mono ?_
      rintro e v9 ⟨rfl, hw⟩
      subst hw
      clear C
      go_wp2_with fail
      have C := Lib.hid (double_none p x.i _ (nb_at N3.out.nb x.i))
      refine C.out.mono ?_
      rintro e v4 ⟨rfl, hb⟩
      have N4 := Lib.hid (N3.out.below hb)
      have HB4 := Lib.hid (HB3.out.trans (hb.mono HB3.out.size))
      clear hb N3 HB3 a1 a2 a3 a4 al C
      go_wp2_with fail
      have C := Lib.hid (copy_none p _ N4.out.nb.nn)
      refine C.out.mono ?_
      rintro e v5 ⟨rfl, hb⟩
      have HB5 := Lib.hid (HBR.out.trans ((HB4.out.trans (hb.mono HB4.out.size)).mono hsr))
      clear hb N4 HB4 C
      go_wp2_with fail
      go_roundw
      case rel => exact ⟨k + 1, by omega, by go_num, HB5.out⟩
      case measure => simp [intOf]; omega
    · have d1 : decide ((k : Int) < 2) = false := decide_eq_false (by omega)
      have HBR := Lib.hid (hb0.trans (hbr.mono hb0.size))
      clear hbr
      go_wp2_with fail
      refine (awake_any wr).mono ?_
      rintro e v ⟨rfl, hb⟩
      have HB := Lib.hid (HBR.out.trans (hb.mono HBR.out.size))
      clear hb HBR
      go_wp2_with fail
      go_ret
      exact ⟨rfl, HB.out⟩
end Go.Proofs.Ytfmflbcmigiciaa
