/- A scope whose label is jumped to again. No condition. -/
import Derived.Test.YtekpmlfcmnlmiaaGreatDoorU18
namespace Go.Proofs.YtekpmlfcmnlmiaaGreatDoor
open Go.RowKit
set_option linter.unusedVariables false
set_option linter.unusedSimpArgs false

section
variable {P : Program} {B : Nat} {w0 : World} {T : Tab} {n : Nat} {e : Env} {h : List XLB} {gs : Frames} {K : XQ} {c : Code}
theorem lowE_toL (m : Nat) (e : Env) : toL m (mapE (lowX 0) e) = kpL (low 0) (toL m e) := by
  rw [kpL_map]
  simp only [toL, List.map_map]
  exact List.map_congr_left fun d _ => by simp only [Function.comp, look_map (f := lowX 0) rfl, lowX_den]
theorem lowG_denG : ∀ gs : Frames, denG (mapG (lowX 0) gs) = kpL (low 0) (denG gs)
  | [] => rfl
  | f :: r => by simp only [mapG, denG, lowE_toL, lowG_denG r, kpL_map, List.map_append]
/-- All local blocks are given up; a slot that led to one reads its cells. -/
theorem XT.openA (d i : Nat) (ts : List TV) {t : TypeId} {cs : List XV} (hnl : NlL ts) (hd : look e d = .ptr i 0) (hi : hget h i = .cells t cs) (hts : XV.denL cs = ts) (hn : Nat.blt d n = true)
    (hx : forceE ((d, .p (.eptr ts) hnl.eptr) :: mapE (lowX 0) e) fun e' => XT P B w0 n c e' [] (mapG (lowX 0) gs) K) : XT P B w0 n c e h gs K := ⟨fun gh Q hq ρ a w hr => by
  have hdn := Nat.blt_eq.mp hn
  have R := hr.rel
  have h2 : Go.Proofs.YtekpmlfcmnlmiaaGreatDoor.hf (h.map XLB.den) i = .cells t (XV.denL cs) := by rw [← hget_den, hi]; rfl
  obtain ⟨g, vs, q1, q2, q3, q4⟩ := R.blk i _ _ h2
  have KK : Keeps ((cxOf B ρ (Go.Proofs.YtekpmlfcmnlmiaaGreatDoor.hf (h.map XLB.den)) w).less (low 0)) (cxOf B ρ (Go.Proofs.YtekpmlfcmnlmiaaGreatDoor.hf []) w) := ⟨fun k hS hk => ⟨rfl, fun j hj => by simp [Go.Proofs.YtekpmlfcmnlmiaaGreatDoor.hf, LB.here] at hj, hk⟩, Nat.le_refl _, fun j hj => absurd hj.2 (by simp [low]), fun _ _ _ _ _ h => h⟩
  have s1 : DnL (cxOf B ρ (Go.Proofs.YtekpmlfcmnlmiaaGreatDoor.hf []) w) (toL n (mapE (lowX 0) e)) a.tmps.toList := by
    rw [lowE_toL]; exact DnL.keep KK _ _ (DnL.kp (low 0) _ _ hr.slots)
  have s2 : DnL (cxOf B ρ (Go.Proofs.YtekpmlfcmnlmiaaGreatDoor.hf []) w) (denG (mapG (lowX 0) gs)) gh := by
    rw [lowG_denG]; exact DnL.keep KK _ _ (DnL.kp (low 0) _ _ hr.ghost)
  have s3 : DnL (cxOf B ρ (Go.Proofs.YtekpmlfcmnlmiaaGreatDoor.hf []) w) ts vs := by
    have := DnL.keep KK _ _ (DnL.kp (low 0) _ _ q4)
    rwa [hts, hnl.k] at this
  obtain ⟨u, hu, hu2⟩ := hr.slots.at_ d _ (toL_get? e hdn)
  rw [hd] at hu2
  simp only [XV.den, Dn] at hu2
  obtain ⟨_, g', r1, rfl⟩ := hu2
  have hg : g' = g := by
    have : blkOf (ρ i) = some g' := r1
    rw [q1] at this
    simpa [blkOf] using this.symm
  subst hg
  have s4 : Dn (cxOf B ρ (Go.Proofs.YtekpmlfcmnlmiaaGreatDoor.hf []) w) (.eptr ts) (.pointer (some ⟨g', 0, none⟩)) := by
    simp only [Dn]
    refine ⟨_, vs, rfl, fun j hj => by simp [Go.Proofs.YtekpmlfcmnlmiaaGreatDoor.hf, LB.here] at hj, q2.lt, s3, fun j x hx => ?_⟩
    have : (⟨g', 0, none⟩ : Addr).add j = ⟨g', j, none⟩ := by
      simp [Addr.add]
      exact fun h => h.symm
    rw [this]
    exact (q2.cell j).trans (by simpa using hx)
  refine (forceE_ok (k := fun e' => XT P B w0 n c e' [] (mapG (lowX 0) gs) K) hx).ok gh Q hq ρ a w ⟨?_, s2, Rel.none R.gl0 R.below R.size R.oth, hr.defers⟩
  show DnL _ (toL n _) _
  rw [toL_set _ _ hdn]
  have h5 := s1.set d s4
  have e2 : a.tmps.toList.set d (.pointer (some ⟨g', 0, none⟩)) = a.tmps.toList := by
    apply List.ext_getElem?
    intro k
    rw [List.getElem?_set]
    split
    · rename_i hk; subst hk; split
      · exact hu.symm
      · rename_i h2; rw [List.getElem?_eq_none (by omega)]
    · rfl
  rw [e2] at h5
  exact h5⟩
end
end Go.Proofs.YtekpmlfcmnlmiaaGreatDoor

namespace Go.Proofs.YtekpmlfcmnlmiaaGreatDoor
open Go.RowKit
set_option linter.unusedVariables false
set_option linter.unusedSimpArgs false

section
variable {P : Program} {B : Nat} {w0 : World} {gh : List Value} {Q : Exit → St → Prop} {σ : St}
theorem TW.scope_again {c rest : Code} (l : Nat) (J : Nat → St → Prop) (hf : findLabel c l = some rest) (first : TW P B w0 gh c σ (jumpT l (fun σ' => ∃ m σ'', J m σ'' ∧ SLe B w0 gh σ' σ'') Q))
    (pass : ∀ n σ, J n σ → TW P B w0 gh rest σ (jumpT l (fun σ' => ∃ m σ'', m < n ∧ J m σ'' ∧ SLe B w0 gh σ' σ'') Q)) : TW P B w0 gh (.scope c) σ Q := fun ρ a w hr => by
  let I : Act → World → Nat → Prop := fun a w n => ∃ σ ρ, J n σ ∧ RelS B w0 gh ρ σ a w
  have hmin : ∀ a w, (∃ n, I a w n) → ∃ n, I a w n ∧ ∀ m, I a w m → n ≤ m := fun a w ⟨n, hn⟩ => by
    induction n using Nat.strongRecOn with
    | _ n ih =>
      by_cases hall : ∀ m, I a w m → n ≤ m
      · exact ⟨n, hn, hall⟩
      · simp only [Classical.not_forall] at hall
        obtain ⟨m, hm, hlt⟩ := hall
        exact ih m (by omega) hm
  classical
  let μ : Act → World → Nat := fun a w => if h : ∃ n, I a w n then Classical.choose (hmin a w h) else 0
  have hμ : ∀ a w (h : ∃ n, I a w n), I a w (μ a w) ∧ ∀ m, I a w m → μ a w ≤ m := fun a w h => by
    have := Classical.choose_spec (hmin a w h)
    simp only [μ, dif_pos h]
    exact this
  refine wp_scope_jumps l (fun a w => ∃ n, I a w n) μ hf (wp_mono (first ρ a w hr) fun e a' w' hh => ?_) fun a w hI => ?_
  · obtain ⟨σ', ρ', h1, h2⟩ := hh
    cases e <;> simp only [jumpT, Exit.jump] at h1 ⊢ <;> first
      | exact ⟨σ', ρ', h1, h2⟩
      | (obtain ⟨h0, m, σ'', h6, h7⟩ := h1
         obtain ⟨ρ'', h9⟩ := h7 ρ' _ _ h2
         exact ⟨h0, m, σ'', ρ'', h6, h9⟩)
  · obtain ⟨h1, h2⟩ := hμ a w hI
    obtain ⟨σ1, ρ1, h3, h4⟩ := h1
    refine wp_mono (pass _ σ1 h3 ρ1 a w h4) fun e a' w' hh => ?_
    obtain ⟨σ', ρ', g1, g2⟩ := hh
    cases e <;> simp only [jumpT, Exit.jump] at g1 ⊢ <;> first
      | exact ⟨σ', ρ', g1, g2⟩
      | (obtain ⟨h0, m, σ'', h5, h6, h7⟩ := g1
         obtain ⟨ρ'', h9⟩ := h7 ρ' _ _ g2
         have hIm : I a' w' m := ⟨σ'', ρ'', h6, h9⟩
         exact ⟨h0, ⟨m, hIm⟩, by have := (hμ a' w' ⟨m, hIm⟩).2 m hIm; omega⟩)
end
section
variable {P : Program} {B : Nat} {w0 : World} {T : Tab} {n : Nat} {e : Env} {h : List XLB} {gs : Frames} {K : XQ} {c : Code}
def agK (l : Nat) (J : Env → List XLB → Frames → Prop) (K : XQ) : XQ := fun ex e h gs => match ex with
  | .goto l' => match Nat.beq l' l with
    | true => J e h gs
    | false => False
  | ex => K ex e h gs
theorem XT.again (O : TabOk P T) {Y : Type} {a rest : Code} (l : Nat) (hf : findLabel c l = some rest) (ds : List Nat) (us : Y → Env) (hs : Y → List (Nat × XLB)) (inv : Y → Prop) (μ : Y → Nat)
    (first : X P B w0 T n a e h gs fun ex e1 h1 g1 => match ex with
      | .normal => X P B w0 T n c e1 h1 g1 (agK l (fun e2 h2 g2 => ∃ z, inv z ∧ LeX e2 h2 g2 (us z ++ dropE ds e) (setsH h (hs z)) gs) K)
      | ex => K ex e1 h1 g1)
    (pass : ∀ y, inv y → forceE (us y ++ dropE ds e) fun e' => forceH (setsH h (hs y)) fun h' => X P B w0 T n rest e' h' gs (agK l (fun e2 h2 g2 => ∃ z, inv z ∧ μ z < μ y ∧ LeX e2 h2 g2 (us z ++ dropE ds e) (setsH h (hs z)) gs) K)) :
    XT P B w0 n (.seq a (.scope c)) e h gs K := ⟨fun gh Q hq => by
  refine .seq ((X_ok O first).ok gh _ fun ex e1 h1 g1 hk => ?_)
  cases ex with
  | normal =>
    refine TW.scope_again l (fun m σ => ∃ y, inv y ∧ μ y = m ∧ σ = xst n (us y ++ dropE ds e) (setsH h (hs y)) gs) hf ((X_ok O hk).ok gh _ fun ex e2 h2 g2 h3 => ?_) fun m σ hJ => ?_
    · cases ex with
      | goto l' =>
        simp only [agK] at h3
        split at h3
        · rename_i hb
          obtain ⟨z, hz1, hz3⟩ := h3
          exact ⟨Nat.eq_of_beq_eq_true hb, μ z, _, ⟨z, hz1, rfl, rfl⟩, hz3.sle gh⟩
        · exact h3.elim
      | _ => exact hq _ _ _ _ h3
    · obtain ⟨y, h1, h2, h3⟩ := hJ
      subst h3
      have := forceH_ok (k := fun h' => X P B w0 T n rest _ h' gs _) (forceE_ok (k := fun e' => forceH (setsH h (hs y)) fun h' => X P B w0 T n rest e' h' gs _) (pass y h1))
      refine (X_ok O this).ok gh _ fun ex e2 h2' g2 h3 => ?_
      cases ex with
      | goto l' =>
        simp only [agK] at h3
        split at h3
        · rename_i hb
          obtain ⟨z, hz1, hz2, hz3⟩ := h3
          exact ⟨Nat.eq_of_beq_eq_true hb, μ z, _, by omega, ⟨z, hz1, rfl, rfl⟩, hz3.sle gh⟩
        · exact h3.elim
      | _ => exact hq _ _ _ _ h3
  | _ => exact hq _ _ _ _ hk⟩
end
end Go.Proofs.YtekpmlfcmnlmiaaGreatDoor
