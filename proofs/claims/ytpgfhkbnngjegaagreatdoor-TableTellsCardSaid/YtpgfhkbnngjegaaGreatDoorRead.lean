/- How an argument that came in reads, in the words of the memory text. No condition. -/
import Derived.Test.YtpgfhkbnngjegaaGreatDoorBase
import Derived.WalkKit
import Derived.ProofKit
import Derived.OpenShut
import Derived.ChangeOld
import Derived.Deep.Slices
import Derived.Deep.Fields
namespace Go.Proofs.YtpgfhkbnngjegaaGreatDoor
open Go.ChangeShapes Go.WideShapes Go.ChangeAt Go.RowKit
set_option linter.unusedVariables false
structure Row (w : World) (k : IntKind) (A : Option Addr) (n cap : Nat) (l : List Int) : Prop where
 sees : Sees w none 1 A n (l.map (Value.int k))
 nc : n ≤ cap
 small : cap ≤ maxLen
 wf : ∀ x ∈ l,(Lit.int k x).wf = true
theorem block_of_cell {w : World} {a : Addr} {v : Value} (h : w.cell? a = some v) : ∃ cur t fz,w.heap[a.block]? = some (.cells cur t fz):=by
 unfold World.cell? at h
 split at h
 ·exact ⟨_,_,_,by assumption⟩
 ·cases h
theorem open_elems {H : Type} {enc : TypeId × Value→H} {P : Program} {w : World} {base fuel : Nat} {held : Bool} {k : Nat} {t e : TypeId} {cs : List Value} {x : DataW H × List MemPlace}
  (ht : P.underlying t = some (.slice e)) (hC : P.cellsOf e = k) (hk : 0 < k) (hf : DataW.trod enc P w base (fun _=>true) held fuel t cs = some x) :
  ∃ A n cap vs,cs = [.slice A n cap]∧n ≤ cap∧cap ≤ maxLen∧Sees w none k A n vs ∧
   ∀ i,i < n→∃ f y,DataW.trod enc P w base (fun _=>true) held f e ((vs.drop (i * k)).take k) = some y:=by
 rcases Go.Deep.open_slice ht hf with ⟨hcs,_⟩ | ⟨a,len,cap,m,f,D,Pl,rfl,_,hl,hm,hmm,_,hx⟩
 ·exact ⟨none,0,0,[],hcs,Nat.le_refl _,by simp [maxLen],Sees.nil _ _ _,fun i hi=>by omega⟩
 ·simp only [if_true] at hmm
  subst hmm
  rw [hC] at hx
  obtain ⟨C,hCC⟩:=Go.Deep.choose_lt (α:=List Value) (n:=m) (p:=fun i cs'=>w.cells? base (a.add (i * k)) k = some cs'∧DataW.trod enc P w base (fun _=>true) held f e cs' = some (D i,Pl i)) hx
  have hlen : ∀ i,i < m→(C i).length = k:=fun i hi=>(World.cells?_some (hCC i hi).1).2.1
  have hget : ∀ j,j < len * k→j / k < len∧j % k < k:=fun j hj=>⟨(Nat.div_lt_iff_lt_mul hk).2 hj,Nat.mod_lt _ hk⟩
  refine ⟨some a,len,m,(List.range (len * k)).map fun j=>(C (j / k)).getD (j % k) undef,rfl,hl,hm,⟨by simp,by simp,fun ad ha=>?_⟩,fun i hi=>⟨f,(D i,Pl i),?_⟩⟩
  ·injection ha with ha
   subst ha
   have hcell : ∀ j,j < len * k→w.cell? (a.add j) = some ((C (j / k)).getD (j % k) undef):=fun j hj=>by
    obtain ⟨h1,h2⟩:=hget j hj
    have h3:=(World.cells?_some (hCC (j / k) (by omega)).1).2.2 (j % k) h2
    rw [addr_add,show j / k * k + j % k = j by rw [Nat.mul_comm]; exact Nat.div_add_mod j k] at h3
    rw [h3,List.getElem?_eq_getElem (by rw [hlen _ (by omega)]; exact h2)]
    simp [List.getD,show j % k < (C (j / k)).length by rw [hlen _ (by omega)]; exact h2]
   refine ⟨fun h0=>?_,fun j u hu=>?_⟩
   ·obtain ⟨cur,t',fz,hb⟩:=block_of_cell (hcell 0 (Nat.mul_pos h0 hk))
    exact ⟨cur,t',fz,by rwa [addr_block] at hb,by simp⟩
   ·rw [List.getElem?_map] at hu
    by_cases hj : j < len * k
    ·rw [List.getElem?_range hj] at hu
     simp only [Option.map_some,Option.some.injEq] at hu
     rw [hcell j hj,hu]
    ·rw [List.getElem?_eq_none (by simpa using hj)] at hu
     cases hu
  ·have he : (((List.range (len * k)).map fun j=>(C (j / k)).getD (j % k) undef).drop (i * k)).take k = C i:=by
    apply List.ext_getElem?
    intro r
    rw [List.getElem?_take,List.getElem?_drop,List.getElem?_map]
    by_cases hr : r < k
    ·have hj : i * k + r < len * k:=by
      have : (i + 1) * k ≤ len * k:=Nat.mul_le_mul_right _ hi
      rw [Nat.add_mul] at this
      omega
     rw [if_pos hr,List.getElem?_range hj]
     have e1 : (i * k + r) / k = i:=by rw [Nat.mul_comm,Nat.mul_add_div hk,Nat.div_eq_of_lt hr]; rfl
     have e2 : (i * k + r) % k = r:=by rw [Nat.mul_comm,Nat.mul_add_mod,Nat.mod_eq_of_lt hr]
     simp only [Option.map_some,e1,e2]
     have hl2 : r < (C i).length:=by rw [hlen i (by omega)]; exact hr
     rw [List.getElem?_eq_getElem hl2]
     simp [List.getD,hl2]
    ·rw [if_neg hr,List.getElem?_eq_none (by rw [hlen i (by omega)]; omega)]
   rw [he]
   exact (hCC i (by omega)).2
structure RowsOf (w : World) (k : IntKind) (A : Option Addr) (n cap : Nat) (vs : List Value) : Prop where
 sees : Sees w none 1 A n vs
 nc : n ≤ cap
 small : cap ≤ maxLen
 each : ∀ u ∈ vs,∃ A n c l,u = .slice A n c∧Row w k A n c l
structure PairsOf (w : World) (k : IntKind) (A : Option Addr) (n cap : Nat) (ps : List (Int × Int)) : Prop where
 sees : Sees w none 2 A n (ps.flatMap fun p=>[.int k p.1,.int k p.2])
 len : ps.length = n
 nc : n ≤ cap
 small : cap ≤ maxLen
 wf : ∀ p ∈ ps,(Lit.int k p.1).wf = true∧(Lit.int k p.2).wf = true
end Go.Proofs.YtpgfhkbnngjegaaGreatDoor
