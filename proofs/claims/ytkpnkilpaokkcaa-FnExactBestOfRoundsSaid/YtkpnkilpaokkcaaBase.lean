/- Small facts of my own: adaptors for regions that draw their order, and bounds on numbers. No program in sight but its number table. -/
import Derived.Test.YtkpnkilpaokkcaaRows
import Derived.WalkKit
import Derived.WalkSpells
import Derived.WalkLawsBesides
import Derived.Handy
import Derived.Lib.Hide
import Derived.Deep.QuietTactic
import Derived.BigQuiet
import Derived.Deep.RegionWith
import Derived.Deep.RegionHeld3
namespace Go.Proofs.Ytkpnkilpaokkcaa
open Go.RowKit

/-- What a read-only call leaves: some draws and nothing else. -/
def Draws (w w' : World) : Prop := ∃ n, w' = w.drewN n

theorem q0 {P : Program} {f : FuncId} {args : Array Value} {w : World} {n : Nat} {v : Value}
    (h : Calls P f args (w.drewN n) fun e w' => e = .returned v ∧ w.drewN n = w') : Calls P f args (w.drewN n) fun e w'' => e = .returned v ∧ ∃ m, w'' = w.drewN m :=
  h.mono fun _ _ h => ⟨h.1, n, h.2.symm⟩
theorem q1 {P : Program} {f : FuncId} {args : Array Value} {w : World} {a n : Nat} {v : Value}
    (h : Calls P f args (w.drewN (a + n)) fun e w' => e = .returned v ∧ w.drewN (a + n) = w') : Calls P f args (w.drewN (a + n)) fun e w'' => e = .returned v ∧ ∃ m, w'' = w.drewN (a + m) :=
  h.mono fun _ _ h => ⟨h.1, n, h.2.symm⟩
theorem d0 {P : Program} {f : FuncId} {args : Array Value} {w : World} {n : Nat} {v : Value}
    (h : Calls P f args (w.drewN n) fun e w' => e = .returned v ∧ Draws (w.drewN n) w') : Calls P f args (w.drewN n) fun e w'' => e = .returned v ∧ ∃ m, w'' = w.drewN m :=
  h.mono fun _ _ h => by obtain ⟨h1, m, h2⟩ := h; exact ⟨h1, n + m, by rw [h2, World.drewN_drewN]⟩
theorem d1 {P : Program} {f : FuncId} {args : Array Value} {w : World} {a n : Nat} {v : Value}
    (h : Calls P f args (w.drewN (a + n)) fun e w' => e = .returned v ∧ Draws (w.drewN (a + n)) w') : Calls P f args (w.drewN (a + n)) fun e w'' => e = .returned v ∧ ∃ m, w'' = w.drewN (a + m) :=
  h.mono fun _ _ h => by obtain ⟨h1, m, h2⟩ := h; exact ⟨h1, n + m, by rw [h2, World.drewN_drewN, Nat.add_assoc]⟩

theorem below_drewN {B : Nat} {a w : World} (h : Below B a w) (n : Nat) : Below B a (w.drewN n) := ⟨h.os, h.tape, h.output, h.size, h.block⟩
theorem Draws.below {B : Nat} {w w' : World} (h : Draws w w') : Below B w w' := by
  obtain ⟨n, rfl⟩ := h
  exact below_drewN (Below.refl _ _) n
theorem draws_refl (w : World) : Draws w w := ⟨0, rfl⟩
theorem draws_N (w : World) (n : Nat) : Draws w (w.drewN n) := ⟨n, rfl⟩

theorem drewN_alloc (w : World) (n : Nat) (o : Obj) : (w.drewN n).alloc o = (w.alloc o).drewN n := rfl
theorem drewN_setCell (w : World) (n : Nat) (a : Addr) (v : Value) : (w.drewN n).setCell a v = (w.setCell a v).drewN n := rfl

def betw (n lo hi : Int) : Bool := decide (lo ≤ n) && decide (n ≤ hi)
theorem betw_true {n lo hi : Int} (h : betw n lo hi = true) : lo ≤ n ∧ n ≤ hi := by simpa [betw] using h

/-- A world in which nothing below block B has changed. -/
structure Later (B : Nat) (w : World) where
  v : World
  h : Below B w v
instance later_some (B : Nat) (w : World) : Nonempty (Later B w) := ⟨⟨w, Below.refl _ _⟩⟩
/-- A REGION THAT DRAWS ITS ORDER, reads old memory and calls functions that leave old memory alone: one walk in the text's order, in the class of worlds in which nothing below the heap's size has changed. -/
theorem wp_region_below {P : Program} {id : Nat} {Q : Exit → Act → World → Prop} {a : Act} {w : World} {l : List Oper} (hm : P.follows .mixedOrders = true) (hB : Region.lexB .any l.toArray = true)
    (h : wpQuiet P l.toArray (fun w' => ∃ x : Later w.heap.size w, w' = x.v) (fun a' => ∀ w', (∃ x : Later w.heap.size w, w' = x.v) → Q .normal a' w') l a) : (Code.region id l.toArray true).wp P Q a w :=
  wp_region_quiet (C := fun w' => ∃ x : Later w.heap.size w, w' = x.v) hm hB ⟨⟨w.drewN 1, below_drewN (Below.refl _ _) 1⟩, rfl⟩ (by simpa using h)
theorem sub_cell {B : Nat} {w : World} (x : Later B w) {b o : Nat} (h : b < B) : x.v.cell? ⟨b, o, none⟩ = w.cell? ⟨b, o, none⟩ := x.h.cell (p := ⟨b, o, none⟩) h
theorem sub_frozen {B : Nat} {w : World} (x : Later B w) {b o : Nat} (h : b < B) : x.v.frozen? ⟨b, o, none⟩ = w.frozen? ⟨b, o, none⟩ := x.h.frozen (p := ⟨b, o, none⟩) h
theorem qBg {P : Program} {f : FuncId} {args : Array Value} {B : Nat} {w : World} {x : Later B w} {v : Value} {R : World → Prop}
    (h : Calls P f args x.v fun e w' => e = .returned v ∧ R w') (hB : B ≤ w.heap.size) (hR : ∀ w', R w' → Below x.v.heap.size x.v w') : Calls P f args x.v fun e w'' => e = .returned v ∧ ∃ y : Later B w, w'' = y.v :=
  h.mono fun _ w' h => ⟨h.1, ⟨w', x.h.trans ((hR w' h.2).mono (Nat.le_trans hB x.h.size))⟩, rfl⟩

end Go.Proofs.Ytkpnkilpaokkcaa
