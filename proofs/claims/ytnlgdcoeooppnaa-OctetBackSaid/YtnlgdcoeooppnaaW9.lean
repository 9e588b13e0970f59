/- The octet layer's readers beside one another. Conditions: those of Rd. -/
import Derived.Test.YtnlgdcoeooppnaaW7
import Derived.Test.YtnlgdcoeooppnaaW8
namespace Go.Proofs.Ytnlgdcoeooppnaa
open Go.RowKit

theorem Rd.keep {w w' : World} {g g' : Nat} {A : Option Addr} {n cap at_ : Nat} {l : List Int} {err : Int} {cs : Array Value} (h : Rd w g A n cap l at_ err) (hb : Blk w g' 76 cs) (hg : w.grownBy w' (some g')) (hne : g ≠ g') :
    Rd w' g A n cap l at_ err :=
  ⟨h.blk.grown hg (fun e => hne (by injection e with e; exact e.symm)), h.sees.grown hg (fun ad h0 h1 e => by injection e with e; exact hb.apart h.sees (by decide) ad h0 h1 e.symm), h.nc, h.le, h.small⟩
theorem own_ne {w : World} {base g : Nat} {e t : TypeId} {size n c : Nat} {A : Option Addr} {xs : List Value} {cs : Array Value} (h : w.ownsRow base e size (.slice A n c) n xs) (hb : Blk w g t cs) (hne : e ≠ t) : ∀ ad, A = some ad → 0 < n → ad.block ≠ g :=
  hb.apart (Sees.of_own h) hne
end Go.Proofs.Ytnlgdcoeooppnaa
