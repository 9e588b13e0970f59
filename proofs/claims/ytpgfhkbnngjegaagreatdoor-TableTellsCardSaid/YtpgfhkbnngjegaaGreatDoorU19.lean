/- A local block that is written no more is read as memory. No condition. -/
import Derived.Test.YtpgfhkbnngjegaaGreatDoorU18
namespace Go.Proofs.YtpgfhkbnngjegaaGreatDoor
open Go.RowKit
set_option linter.unusedVariables false
set_option linter.unusedSimpArgs false
section
variable {P : Program} {B : Nat} {w0 : World} {T : Tab} {n : Nat} {e : Env} {h : List XLB} {gs : Frames} {K : XQ} {c : Code}
theorem lowE_toL (m : Nat) (e : Env) : toL m (mapE (lowX 0) e) = kpL (low 0) (toL m e):=by
 rw [kpL_map]
 simp only [toL,List.map_map]
 exact List.map_congr_left fun d _=>by simp only [Function.comp,look_map (f:=lowX 0) rfl,lowX_den]
theorem lowG_denG : ∀ gs : Frames,denG (mapG (lowX 0) gs) = kpL (low 0) (denG gs)
 | []=>rfl
 | f :: r=>by simp only [mapG,denG,lowE_toL,lowG_denG r,kpL_map,List.map_append]
theorem XT.openA (d i : Nat) (ts : List TV) {t : TypeId} {cs : List XV} (hnl : NlL ts) (hd : look e d = .ptr i 0) (hi : hget h i = .cells t cs) (hts : XV.denL cs = ts) (hn : Nat.blt d n = true)
  (hx : forceE ((d,.p (.eptr ts) hnl.eptr) :: mapE (lowX 0) e) fun e'=>XT P B w0 n c e' [] (mapG (lowX 0) gs) K) : XT P B w0 n c e h gs K:=⟨fun gh Q hq ρ a w hr=>by
 have hdn:=Nat.blt_eq.mp hn
 have R:=hr.rel
 have h2 : Go.Proofs.YtpgfhkbnngjegaaGreatDoor.hf (h.map XLB.den) i = .cells t (XV.denL cs):=by rw [← hget_den,hi]; rfl
 obtain ⟨g,vs,q1,q2,q3,q4⟩:=R.blk i _ _ h2
 have KK : Keeps ((cxOf B ρ (Go.Proofs.YtpgfhkbnngjegaaGreatDoor.hf (h.map XLB.den)) w).less (low 0)) (cxOf B ρ (Go.Proofs.YtpgfhkbnngjegaaGreatDoor.hf []) w):=⟨fun k hS hk=>⟨rfl,⟨fun j hj=>by simp [Go.Proofs.YtpgfhkbnngjegaaGreatDoor.hf,LB.here] at hj,fun j hp=>by simp [Go.Proofs.YtpgfhkbnngjegaaGreatDoor.hf,LB.ps] at hp⟩,hk⟩,Nat.le_refl _,fun j hj=>absurd hj.2 (by simp [low]),fun _ _ _ _ _ h=>h,fun j k hj _ _=>absurd hj.2 (by simp [low])⟩
 have s1 : DnL (cxOf B ρ (Go.Proofs.YtpgfhkbnngjegaaGreatDoor.hf []) w) (toL n (mapE (lowX 0) e)) a.tmps.toList:=by
  rw [lowE_toL]; exact DnL.keep KK _ _ (DnL.kp (low 0) _ _ hr.slots)
 have s2 : DnL (cxOf B ρ (Go.Proofs.YtpgfhkbnngjegaaGreatDoor.hf []) w) (denG (mapG (lowX 0) gs)) gh:=by
  rw [lowG_denG]; exact DnL.keep KK _ _ (DnL.kp (low 0) _ _ hr.ghost)
 have s3 : DnL (cxOf B ρ (Go.Proofs.YtpgfhkbnngjegaaGreatDoor.hf []) w) ts vs:=by
  have:=DnL.keep KK _ _ (DnL.kp (low 0) _ _ q4)
  rwa [hts,hnl.k] at this
 obtain ⟨u,hu,hu2⟩:=hr.slots.at_ d _ (toL_get? e hdn)
 rw [hd] at hu2
 simp only [XV.den,Dn] at hu2
 obtain ⟨_,g',r1,rfl⟩:=hu2
 have hg : g' = g:=by
  have : blkOf (ρ i) = some g':=r1
  rw [q1] at this
  simpa [blkOf] using this.symm
 subst hg
 have s4 : Dn (cxOf B ρ (Go.Proofs.YtpgfhkbnngjegaaGreatDoor.hf []) w) (.eptr ts) (.pointer (some ⟨g',0,none⟩)):=by
  simp only [Dn]
  refine ⟨_,vs,rfl,⟨fun j hj=>by simp [Go.Proofs.YtpgfhkbnngjegaaGreatDoor.hf,LB.here] at hj,fun j hp=>by simp [Go.Proofs.YtpgfhkbnngjegaaGreatDoor.hf,LB.ps] at hp⟩,q2.lt,s3,fun j x hx=>?_⟩
  have : (⟨g',0,none⟩ : Addr).add j = ⟨g',j,none⟩:=by
   simp [Addr.add]
   exact fun h=>h.symm
  rw [this]
  exact (q2.cell j).trans (by simpa using hx)
 refine (forceE_ok (k:=fun e'=>XT P B w0 n c e' [] (mapG (lowX 0) gs) K) hx).ok gh Q hq ρ a w ⟨?_,s2,Rel.none R.gl0 R.below R.size R.oth,hr.defers⟩
 show DnL _ (toL n _) _
 rw [toL_set _ _ hdn]
 have h5:=s1.set d s4
 have e2 : a.tmps.toList.set d (.pointer (some ⟨g',0,none⟩)) = a.tmps.toList:=by
  apply List.ext_getElem?
  intro k
  rw [List.getElem?_set]
  split
  ·rename_i hk; subst hk; split
   ·exact hu.symm
   ·rename_i h2; rw [List.getElem?_eq_none (by omega)]
  ·rfl
 rw [e2] at h5
 exact h5⟩
end
end Go.Proofs.YtpgfhkbnngjegaaGreatDoor
