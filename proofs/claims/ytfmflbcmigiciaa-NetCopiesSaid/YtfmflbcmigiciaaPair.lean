/- Chapter 05: a net beside the document's: what a call of either does to both. -/
import Derived.Test.YtfmflbcmigiciaaRefI
import Derived.Deep.RegionHeld3
namespace Go.Proofs.Ytfmflbcmigiciaa
open Go.RowKit

def UM (G : Nat) (A : Option Addr) (M : Nat) (k : Nat) : Prop := wr G A k ∨ k = M
/-- A net and the document's, since the world w0. -/
structure PP (w0 : World) (R0 : Nat → Prop) (G : Nat) (A0 : Option Addr) (M : Nat) (N : Int) (w : World) (cn : Nat → Nat → Bool) (bn : List Msg) (cr : Nat → Nat → Bool) (br : List Msg) (K : Nat) : Prop where
  ex : ∃ R A, Upd (UM G A0 M) R0 R w0 w ∧ (∀ k, wr G A k → wr G A0 k ∨ w0.heap.size ≤ k) ∧ NetAt w R G A N cn bn ∧ RefAt w R M N cr br K ∧ ¬ wr G A M
section
variable {w0 w w' : World} {R0 : Nat → Prop} {G : Nat} {A0 : Option Addr} {M : Nat} {N : Int} {cn cn' : Nat → Nat → Bool} {bn bn' : List Msg} {cr cr' : Nat → Nat → Bool} {br br' : List Msg} {K K' : Nat}
theorem PP.start {R : Nat → Prop} {A : Option Addr} (h1 : NetAt w R G A N cn bn) (h2 : RefAt w R M N cr br K) (h3 : ¬ wr G A M) : PP w R G A M N w cn bn cr br K :=
  ⟨R, A, (Upd.refl h1.lt).widen (fun _ h => h.elim) (fun k hk hR => hk.elim (fun h => h1.off k h hR) fun e => h2.off (e ▸ hR)), fun _ h => .inl h, h1, h2, h3⟩
theorem PP.step_net {R : Nat → Prop} {A : Option Addr} (hu : Upd (UM G A0 M) R0 R w0 w) (ha : ∀ k, wr G A k → wr G A0 k ∨ w0.heap.size ≤ k) (h2 : RefAt w R M N cr br K) (h3 : ¬ wr G A M) (hn : Net1 w w' R G A N cn' bn') : PP w0 R0 G A0 M N w' cn' bn' cr br K := by
  obtain ⟨R', A', hu', hn', ha'⟩ := hn
  refine ⟨R', A', hu.trans hu' hu.off (fun _ h => h) (fun x hx hw => ?_), fun k hk => ?_, hn', h2.upd hu' h3, fun hM => ?_⟩
  · rcases ha x hw with h | h
    · exact .inl h
    · omega
  · rcases ha' k hk with h | h
    · exact ha k h
    · exact .inr (Nat.le_trans hu.far.size h)
  · rcases ha' M hM with h | h
    · exact h3 h
    · have := h2.M_lt; omega
theorem PP.step_ref {R : Nat → Prop} {A : Option Addr} (hu : Upd (UM G A0 M) R0 R w0 w) (ha : ∀ k, wr G A k → wr G A0 k ∨ w0.heap.size ≤ k) (h1 : NetAt w R G A N cn bn) (h3 : ¬ wr G A M) (hr : Ref1 w w' R M N cr' br' K') : PP w0 R0 G A0 M N w' cn bn cr' br' K' := by
  obtain ⟨R', hu', hr'⟩ := hr
  exact ⟨R', A, hu.trans hu' hu.off (fun _ h => h) (fun x _ hx => .inr hx), ha, h1.upd hu' fun k hk e => h3 (e ▸ hk), hr', h3⟩
/-- A call of the net. -/
theorem PP.net (h : PP w0 R0 G A0 M N w cn bn cr br K) {f : FuncId} {args : Array Value} {p : Ending → World → Prop} (C : ∀ R A, NetAt w R G A N cn bn → Calls Try.prog f args w fun e w' => p e w' ∧ Net1 w w' R G A N cn' bn') :
    Calls Try.prog f args w fun e w' => p e w' ∧ PP w0 R0 G A0 M N w' cn' bn' cr br K := by
  obtain ⟨R, A, hu, ha, h1, h2, h3⟩ := h.ex
  exact (C R A h1).mono fun e w' hh => ⟨hh.1, PP.step_net hu ha h2 h3 hh.2⟩
/-- A call of the document's net. -/
theorem PP.ref (h : PP w0 R0 G A0 M N w cn bn cr br K) {f : FuncId} {args : Array Value} {p : Ending → World → Prop} (C : ∀ R, RefAt w R M N cr br K → Calls Try.prog f args w fun e w' => p e w' ∧ Ref1 w w' R M N cr' br' K') :
    Calls Try.prog f args w fun e w' => p e w' ∧ PP w0 R0 G A0 M N w' cn bn cr' br' K' := by
  obtain ⟨R, A, hu, ha, h1, h2, h3⟩ := h.ex
  exact (C R h2).mono fun e w' hh => ⟨hh.1, PP.step_ref hu ha h1 h3 hh.2⟩
theorem PP.below (h : PP w0 R0 G A0 M N w cn bn cr br K) (hb : Below w.heap.size w w') : PP w0 R0 G A0 M N w' cn bn cr br K := by
  obtain ⟨R, A, hu, ha, h1, h2, h3⟩ := h.ex
  exact ⟨R, A, hu.trans (Upd.of_below h1.lt hb) hu.off (fun _ h => h) (fun x _ hx => hx.elim), ha, h1.below hb, h2.below hb, h3⟩
theorem PP.blk (h : PP w0 R0 G A0 M N w cn bn cr br K) {g : Nat} {t : TypeId} {cs : Array Value} (hb : Blk w0 g t cs) (hg : R0 g) : Blk w g t cs := by
  obtain ⟨R, A, hu, _⟩ := h.ex
  exact blk_upd' hb hu hg
where blk_upd' {S R R' : Nat → Prop} {w w' : World} {g : Nat} {t : TypeId} {cs : Array Value} (h : Blk w g t cs) (hu : Upd S R R' w w') (hg : R g) : Blk w' g t cs := h.far_ hu.far (fun hS => hu.off _ hS hg)
theorem PP.rd (h : PP w0 R0 G A0 M N w cn bn cr br K) {s n : Nat} {A : Option Addr} {xs : List Value} (hr : RD R0 w0 s A n xs) : Reads w w.heap.size s A n xs := by
  obtain ⟨R, A, hu, _⟩ := h.ex
  exact (hr.upd hu).1
theorem PP.size (h : PP w0 R0 G A0 M N w cn bn cr br K) : w0.heap.size ≤ w.heap.size := by
  obtain ⟨R, A, hu, _⟩ := h.ex
  exact hu.far.size
end
/-- What an act makes of the links and the bag. -/
def actP (N : Int) (cut : Nat → Nat → Bool) (bag : List Msg) (x : ActM) : (Nat → Nat → Bool) × List Msg :=
  if x.d = 0 then (cut, (sendP N cut bag x.a x.b x.bs).2) else if x.d = 1 then (cut, (delP N cut bag x.i).2.2) else if x.d = 2 then (cut, (dropP bag x.i).2) else if x.d = 3 then (cut, (dblP bag x.i).2)
  else if x.d = 4 then (cutP N cut x.a x.b true, bag) else if x.d = 5 then (cutP N cut x.a x.b false, bag) else (cut, bag)
end Go.Proofs.Ytfmflbcmigiciaa
