/- A local block that is written no more is read as memory. No condition. -/
import Derived.Test.YtpgfhkbnngjegaaGreatDoorU17
namespace Go.Proofs.YtpgfhkbnngjegaaGreatDoor
open Go.RowKit
set_option linter.unusedVariables false
set_option linter.unusedSimpArgs false

section
variable {P : Program} {B : Nat} {w0 : World} {n : Nat} {e : Env} {h : List XLB} {gs : Frames}
end
section
variable {P : Program} {B : Nat} {w0 : World} {gh : List Value} {ops : Array Oper}
end
section
variable {P : Program} {B : Nat} {w0 : World} {T : Tab} {n : Nat} {e : Env} {h : List XLB} {gs : Frames} {K : XQ} {c : Code}
def lowsB (m : Nat) : Env → Bool
  | [] => true
  | x :: r => match lowB m x.2 with
    | true => lowsB m r
    | false => false
theorem memN_iff {d : Nat} : ∀ {ds : List Nat}, memN d ds = true ↔ d ∈ ds
  | [] => by simp [memN]
  | x :: r => by
    simp only [memN, List.mem_cons]
    cases hb : Nat.beq x d with
    | true => simp [(Nat.eq_of_beq_eq_true hb).symm]
    | false =>
      have hne : ¬ d = x := fun e => by subst e; simp at hb
      simp [hne, memN_iff (ds := r)]
theorem dropE_at : ∀ {e : Env} {ds : List Nat} {x : Nat × XV}, x ∈ dropE ds e → look e x.1 = x.2 ∧ x.1 ∉ ds
  | [], ds, x, h => by simp [dropE] at h
  | y :: r, ds, x, h => by
    simp only [dropE] at h
    cases hm : memN y.1 ds with
    | true =>
      rw [hm] at h
      obtain ⟨h1, h2⟩ := dropE_at h
      have hne : y.1 ≠ x.1 := fun e => h2 (e ▸ memN_iff.1 hm)
      exact ⟨(look_ne r y.2 hne).trans h1, h2⟩
    | false =>
      rw [hm] at h
      rcases List.mem_cons.1 h with rfl | h
      · exact ⟨look_same r x.1 x.2, fun hx => by rw [memN_iff.2 hx] at hm; cases hm⟩
      · obtain ⟨h1, h2⟩ := dropE_at h
        have hne : y.1 ≠ x.1 := fun e => h2 (e ▸ List.mem_cons_self)
        exact ⟨(look_ne r y.2 hne).trans h1, fun hx => h2 (List.mem_cons_of_mem _ hx)⟩
theorem leEnv_of {m : Nat} {e : Env} : ∀ {e' : Env}, (∀ x ∈ e', LeV (lowX m (look e x.1)) x.2) → LeEnv m e e'
  | [], _ => trivial
  | x :: r, h => ⟨h x (by simp), leEnv_of fun y hy => h y (by simp [hy])⟩
theorem lowsB_mem {m : Nat} : ∀ {e : Env}, lowsB m e = true → ∀ x ∈ e, lowB m x.2 = true
  | [], _, x, hx => by simp at hx
  | y :: r, h, x, hx => by
    simp only [lowsB] at h
    split at h
    · rename_i hy
      rcases List.mem_cons.1 hx with rfl | hx
      · exact hy
      · exact lowsB_mem h x hx
    · cases h
theorem leEnv_mem {m : Nat} {e : Env} : ∀ {e' : Env}, LeEnv m e e' → ∀ x ∈ e', LeV (lowX m (look e x.1)) x.2
  | [], _, x, hx => by simp at hx
  | y :: r, h, x, hx => by
    rcases List.mem_cons.1 hx with rfl | hx
    · exact h.1
    · exact leEnv_mem h.2 x hx
/-- The slots that were not written, in one step. -/
theorem leEnv_app {m : Nat} {e1 us e : Env} {ds : List Nat} (h2 : dropE ds e1 = dropE ds e) (h3 : lowsB m (dropE ds e) = true) (h1 : LeEnv m e1 us) : LeEnv m e1 (us ++ dropE ds e) := leEnv_of fun x hx => by
  rcases List.mem_append.1 hx with hx | hx
  · exact leEnv_mem h1 x hx
  · have h4 := lowX_id x.2 (lowsB_mem h3 x hx)
    rw [← h2] at hx
    rw [(dropE_at hx).1, h4]
    exact .rfl
/-- What a state says at least, when some rows are written no more. -/
def LeFz (e' : Env) (h' : List XLB) (gs' : Frames) : List Nat → Env → List XLB → Frames → Prop
  | [], e, h, gs => LeX e h gs e' h' gs'
  | j :: js, e, h, gs => frzK e h gs j fun e1 h1 gs1 => LeFz e' h' gs' js e1 h1 gs1
theorem LeFz.sle {e' : Env} {h' : List XLB} {gs' : Frames} (gh : List Value) : ∀ {js : List Nat} {e : Env} {h : List XLB} {gs : Frames}, LeFz e' h' gs' js e h gs → SLe B w0 gh (xst n e h gs) (xst n e' h' gs')
  | [], e, h, gs, hh => LeX.sle hh gh
  | j :: js, e, h, gs, hh => by
    obtain ⟨e1, h1, g1, h2, h3⟩ := frzK_ok (n := n) (B := B) (w0 := w0) hh
    exact (h2 gh).trans (LeFz.sle gh h3)
/-- Ways that meet: what is behind them is walked once. -/
theorem XT.cut (O : TabOk P T) {Y : Type} (ds : List Nat) (us : Y → Env) (hs : Y → List (Nat × XLB)) (r : Y → Prop)
    (ha : X P B w0 T n c e h gs fun ex e1 h1 g1 => match ex with
      | .normal => ∃ y, r y ∧ ∃ js, LeFz (us y ++ dropE ds e) (setsH h (hs y)) gs js e1 h1 g1
      | ex => K ex e1 h1 g1)
    (hb : ∀ y, r y → forceE (us y ++ dropE ds e) fun e' => forceH (setsH h (hs y)) fun h' => K .normal e' h' gs) : XT P B w0 n c e h gs K := ⟨fun gh Q hq ρ a w hr => by
  refine wp_mono ((X_ok O ha).ok gh (fun ex σ => match ex with
    | .normal => ∃ σ', SLe B w0 gh σ σ' ∧ Q .normal σ'
    | ex => Q ex σ) (fun ex e1 h1 gs1 hk => ?_) ρ a w hr) fun ex a w ⟨σ, ρ, h1, h2⟩ => ?_
  · cases ex with
    | normal =>
      obtain ⟨y, hy, js, hl⟩ := hk
      have := forceH_ok (k := fun h' => K .normal _ h' gs) (forceE_ok (k := fun e' => forceH (setsH h (hs y)) fun h' => K .normal e' h' gs) (hb y hy))
      exact ⟨_, hl.sle gh, hq _ _ _ _ this⟩
    | _ => exact hq _ _ _ _ hk
  · cases ex with
    | normal =>
      obtain ⟨σ', h3, h4⟩ := h1
      obtain ⟨ρ', h5⟩ := h3 ρ a w h2
      exact ⟨σ', ρ', h4, h5⟩
    | _ => exact ⟨σ, ρ, h1, h2⟩⟩
/-- The walk goes on behind a place where it stopped. -/
theorem XT.pass (O : TabOk P T) {a b : Code} (hx : X P B w0 T n a e h gs fun ex e h gs => match ex with
    | .normal => X P B w0 T n b e h gs K
    | ex => K ex e h gs) : XT P B w0 n (.seq a b) e h gs K := ⟨fun gh Q hq => by
  refine .seq ((X_ok O hx).ok gh _ fun ex e h gs h1 => ?_)
  cases ex with
  | normal => exact (X_ok O h1).ok gh Q hq
  | _ => exact hq _ _ _ _ h1⟩
end
end Go.Proofs.YtpgfhkbnngjegaaGreatDoor

namespace Go.Proofs.YtpgfhkbnngjegaaGreatDoor
open Go.RowKit
set_option linter.unusedVariables false
set_option linter.unusedSimpArgs false

section
variable {P : Program} {B : Nat} {w0 : World} {T : Tab} {n : Nat} {e : Env} {h : List XLB} {gs : Frames} {K : XQ} {c : Code}
theorem lowE_toL (m : Nat) (e : Env) : toL m (mapE (lowX 0) e) = kpL (low 0) (toL m e) := by
  rw [kpL_map]
  simp only [toL, List.map_map]
  exact List.map_congr_left fun d _ => by simp only [Function.comp, look_map (f := lowX 0) rfl, lowX_den]
theorem lowG_denG : ∀ gs : Frames, denG (mapG (lowX 0) gs) = kpL (low 0) (denG gs)
  | [] => rfl
  | f :: r => by simp only [mapG, denG, lowE_toL, lowG_denG r, kpL_map, List.map_append]
/-- All local blocks are given up; a slot that led to one reads its cells. -/
theorem XT.openA (d i : Nat) (ts : List TV) {t : TypeId} {cs : List XV} (hnl : NlL ts) (hd : look e d = .ptr i 0) (hi : hget h i = .cells t cs) (hts : XV.denL cs = ts) (hn : Nat.blt d n = true)
    (hx : forceE ((d, .p (.eptr ts) hnl.eptr) :: mapE (lowX 0) e) fun e' => XT P B w0 n c e' [] (mapG (lowX 0) gs) K) : XT P B w0 n c e h gs K := ⟨fun gh Q hq ρ a w hr => by
  have hdn := Nat.blt_eq.mp hn
  have R := hr.rel
  have h2 : Go.Proofs.YtpgfhkbnngjegaaGreatDoor.hf (h.map XLB.den) i = .cells t (XV.denL cs) := by rw [← hget_den, hi]; rfl
  obtain ⟨g, vs, q1, q2, q3, q4⟩ := R.blk i _ _ h2
  have KK : Keeps ((cxOf B ρ (Go.Proofs.YtpgfhkbnngjegaaGreatDoor.hf (h.map XLB.den)) w).less (low 0)) (cxOf B ρ (Go.Proofs.YtpgfhkbnngjegaaGreatDoor.hf []) w) := ⟨fun k hS hk => ⟨rfl, ⟨fun j hj => by simp [Go.Proofs.YtpgfhkbnngjegaaGreatDoor.hf, LB.here] at hj, fun j hp => by simp [Go.Proofs.YtpgfhkbnngjegaaGreatDoor.hf, LB.ps] at hp⟩, hk⟩, Nat.le_refl _, fun j hj => absurd hj.2 (by simp [low]), fun _ _ _ _ _ h => h, fun j k hj _ _ => absurd hj.2 (by simp [low])⟩
  have s1 : DnL (cxOf B ρ (Go.Proofs.YtpgfhkbnngjegaaGreatDoor.hf []) w) (toL n (mapE (lowX 0) e)) a.tmps.toList := by
    rw [lowE_toL]; exact DnL.keep KK _ _ (DnL.kp (low 0) _ _ hr.slots)
  have s2 : DnL (cxOf B ρ (Go.Proofs.YtpgfhkbnngjegaaGreatDoor.hf []) w) (denG (mapG (lowX 0) gs)) gh := by
    rw [lowG_denG]; exact DnL.keep KK _ _ (DnL.kp (low 0) _ _ hr.ghost)
  have s3 : DnL (cxOf B ρ (Go.Proofs.YtpgfhkbnngjegaaGreatDoor.hf []) w) ts vs := by
    have := DnL.keep KK _ _ (DnL.kp (low 0) _ _ q4)
    rwa [hts, hnl.k] at this
  obtain ⟨u, hu, hu2⟩ := hr.slots.at_ d _ (toL_get? e hdn)
  rw [hd] at hu2
  simp only [XV.den, Dn] at hu2
  obtain ⟨_, g', r1, rfl⟩ := hu2
  have hg : g' = g := by
    have : blkOf (ρ i) = some g' := r1
    rw [q1] at this
    simpa [blkOf] using this.symm
  subst hg
  have s4 : Dn (cxOf B ρ (Go.Proofs.YtpgfhkbnngjegaaGreatDoor.hf []) w) (.eptr ts) (.pointer (some ⟨g', 0, none⟩)) := by
    simp only [Dn]
    refine ⟨_, vs, rfl, ⟨fun j hj => by simp [Go.Proofs.YtpgfhkbnngjegaaGreatDoor.hf, LB.here] at hj, fun j hp => by simp [Go.Proofs.YtpgfhkbnngjegaaGreatDoor.hf, LB.ps] at hp⟩, q2.lt, s3, fun j x hx => ?_⟩
    have : (⟨g', 0, none⟩ : Addr).add j = ⟨g', j, none⟩ := by
      simp [Addr.add]
      exact fun h => h.symm
    rw [this]
    exact (q2.cell j).trans (by simpa using hx)
  refine (forceE_ok (k := fun e' => XT P B w0 n c e' [] (mapG (lowX 0) gs) K) hx).ok gh Q hq ρ a w ⟨?_, s2, Rel.none R.gl0 R.below R.size R.oth, hr.defers⟩
  show DnL _ (toL n _) _
  rw [toL_set _ _ hdn]
  have h5 := s1.set d s4
  have e2 : a.tmps.toList.set d (.pointer (some ⟨g', 0, none⟩)) = a.tmps.toList := by
    apply List.ext_getElem?
    intro k
    rw [List.getElem?_set]
    split
    · rename_i hk; subst hk; split
      · exact hu.symm
      · rename_i h2; rw [List.getElem?_eq_none (by omega)]
    · rfl
  rw [e2] at h5
  exact h5⟩
end
end Go.Proofs.YtpgfhkbnngjegaaGreatDoor
