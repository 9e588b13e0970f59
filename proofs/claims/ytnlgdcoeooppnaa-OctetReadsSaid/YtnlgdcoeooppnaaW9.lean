/- The octet layer's readers beside one another. Conditions: those of Rd. -/
import Derived.Test.YtnlgdcoeooppnaaW7
import Derived.Test.YtnlgdcoeooppnaaW8
namespace Go.Proofs.Ytnlgdcoeooppnaa
open Go.RowKit

theorem Rd.keep {w w' : World} {g g' : Nat} {A : Option Addr} {n cap at_ : Nat} {l : List Int} {err : Int} {cs : Array Value} (h : Rd w g A n cap l at_ err) (hb : Blk w g' 76 cs) (hg : w.grownBy w' (some g')) (hne : g ≠ g') :
    Rd w' g A n cap l at_ err :=
  ⟨h.blk.grown hg (fun e => hne (by injection e with e; exact e.symm)), h.sees.grown hg (fun ad h0 h1 e => by injection e with e; exact hb.apart h.sees (by decide) ad h0 h1 e.symm), h.nc, h.le, h.small⟩
theorem own_ne {w : World} {base g : Nat} {e t : TypeId} {size n c : Nat} {A : Option Addr} {xs : List Value} {cs : Array Value} (h : w.ownsRow base e size (.slice A n c) n xs) (hb : Blk w g t cs) (hne : e ≠ t) : ∀ ad, A = some ad → 0 < n → ad.block ≠ g :=
  hb.apart (Sees.of_own h) hne
theorem Rd.grown {w w' : World} {g g' : Nat} {A : Option Addr} {n cap at_ : Nat} {l : List Int} {err : Int} (h : Rd w g A n cap l at_ err) (hg : w.grownBy w' (some g')) (hne : g ≠ g') (hA : ∀ ad, A = some ad → 0 < n → ad.block ≠ g') :
    Rd w' g A n cap l at_ err :=
  ⟨h.blk.grown hg (fun e => hne (by injection e with e; exact e.symm)), h.sees.grown hg (fun ad h0 h1 e => hA ad h0 h1 (by injection e with e; exact e.symm)), h.nc, h.le, h.small⟩
theorem Sees.grown1 {w w' : World} {e : Option TypeId} {size n g : Nat} {A : Option Addr} {xs : List Value} (h : Sees w e size A n xs) (hg : w.grownBy w' (some g)) (hA : ∀ ad, A = some ad → 0 < n → ad.block ≠ g) : Sees w' e size A n xs :=
  h.grown hg fun ad h0 h1 e => hA ad h0 h1 (by injection e with e; exact e.symm)
theorem own_apart {w : World} {base g : Nat} {e t : TypeId} {size n c : Nat} {A : Option Addr} {xs : List Value} {cs : Array Value} (h : w.ownsRow base e size (.slice A n c) n xs) (hb : Blk w g t cs) (hne : e ≠ t) : ∀ ad, A = some ad → ad.block ≠ g := by
  rintro ad rfl rfl
  rcases h.2 with ⟨hv, _⟩ | ⟨g', cap, cur, hv, _, hg', _⟩
  · cases hv
  · injection hv with hA
    injection hA with hA
    subst hA
    unfold Blk at hb
    rw [hb] at hg'
    injection hg' with hg'
    injection hg' with _ ht _
    exact hne ht.symm
theorem own_grown1 {w w' : World} {base g : Nat} {e : TypeId} {size n c : Nat} {A : Option Addr} {xs : List Value} (h : w.ownsRow base e size (.slice A n c) n xs) (hg : w.grownBy w' (some g)) (hA : ∀ ad, A = some ad → ad.block ≠ g) : w'.ownsRow base e size (.slice A n c) n xs := by
  rcases A with _ | ad
  · exact h.kept hg (.inl rfl)
  · exact h.kept hg (.inr (by simp only [Value.ownBlock]; intro e; injection e with e; exact hA ad rfl e))
end Go.Proofs.Ytnlgdcoeooppnaa
