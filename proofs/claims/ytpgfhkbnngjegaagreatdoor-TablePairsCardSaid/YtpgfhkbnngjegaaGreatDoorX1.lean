/- Bytes and words. No condition. -/
import Derived.Test.YtpgfhkbnngjegaaGreatDoorU17
namespace Go.Proofs.YtpgfhkbnngjegaaGreatDoor
open Go.RowKit
set_option linter.unusedVariables false
set_option linter.unusedSimpArgs false

section
variable {P : Program} {B : Nat} {w0 : World} {n : Nat} {e : Env} {h : List XLB} {gs : Frames}
end
section
variable {P : Program} {B : Nat} {w0 : World} {gh : List Value} {ops : Array Oper}
end
section
variable {P : Program} {B : Nat} {w0 : World} {T : Tab} {n : Nat} {e : Env} {h : List XLB} {gs : Frames} {K : XQ} {c : Code}
def lowsB (m : Nat) : Env → Bool
  | [] => true
  | x :: r => match lowB m x.2 with
    | true => lowsB m r
    | false => false
theorem memN_iff {d : Nat} : ∀ {ds : List Nat}, memN d ds = true ↔ d ∈ ds
  | [] => by simp [memN]
  | x :: r => by
    simp only [memN, List.mem_cons]
    cases hb : Nat.beq x d with
    | true => simp [(Nat.eq_of_beq_eq_true hb).symm]
    | false =>
      have hne : ¬ d = x := fun e => by subst e; simp at hb
      simp [hne, memN_iff (ds := r)]
theorem dropE_at : ∀ {e : Env} {ds : List Nat} {x : Nat × XV}, x ∈ dropE ds e → look e x.1 = x.2 ∧ x.1 ∉ ds
  | [], ds, x, h => by simp [dropE] at h
  | y :: r, ds, x, h => by
    simp only [dropE] at h
    cases hm : memN y.1 ds with
    | true =>
      rw [hm] at h
      obtain ⟨h1, h2⟩ := dropE_at h
      have hne : y.1 ≠ x.1 := fun e => h2 (e ▸ memN_iff.1 hm)
      exact ⟨(look_ne r y.2 hne).trans h1, h2⟩
    | false =>
      rw [hm] at h
      rcases List.mem_cons.1 h with rfl | h
      · exact ⟨look_same r x.1 x.2, fun hx => by rw [memN_iff.2 hx] at hm; cases hm⟩
      · obtain ⟨h1, h2⟩ := dropE_at h
        have hne : y.1 ≠ x.1 := fun e => h2 (e ▸ List.mem_cons_self)
        exact ⟨(look_ne r y.2 hne).trans h1, fun hx => h2 (List.mem_cons_of_mem _ hx)⟩
theorem leEnv_of {m : Nat} {e : Env} : ∀ {e' : Env}, (∀ x ∈ e', LeV (lowX m (look e x.1)) x.2) → LeEnv m e e'
  | [], _ => trivial
  | x :: r, h => ⟨h x (by simp), leEnv_of fun y hy => h y (by simp [hy])⟩
theorem lowsB_mem {m : Nat} : ∀ {e : Env}, lowsB m e = true → ∀ x ∈ e, lowB m x.2 = true
  | [], _, x, hx => by simp at hx
  | y :: r, h, x, hx => by
    simp only [lowsB] at h
    split at h
    · rename_i hy
      rcases List.mem_cons.1 hx with rfl | hx
      · exact hy
      · exact lowsB_mem h x hx
    · cases h
theorem leEnv_mem {m : Nat} {e : Env} : ∀ {e' : Env}, LeEnv m e e' → ∀ x ∈ e', LeV (lowX m (look e x.1)) x.2
  | [], _, x, hx => by simp at hx
  | y :: r, h, x, hx => by
    rcases List.mem_cons.1 hx with rfl | hx
    · exact h.1
    · exact leEnv_mem h.2 x hx
/-- The slots that were not written, in one step. -/
theorem leEnv_app {m : Nat} {e1 us e : Env} {ds : List Nat} (h2 : dropE ds e1 = dropE ds e) (h3 : lowsB m (dropE ds e) = true) (h1 : LeEnv m e1 us) : LeEnv m e1 (us ++ dropE ds e) := leEnv_of fun x hx => by
  rcases List.mem_append.1 hx with hx | hx
  · exact leEnv_mem h1 x hx
  · have h4 := lowX_id x.2 (lowsB_mem h3 x hx)
    rw [← h2] at hx
    rw [(dropE_at hx).1, h4]
    exact .rfl
/-- What a state says at least, when some rows are written no more. -/
def LeFz (e' : Env) (h' : List XLB) (gs' : Frames) : List Nat → Env → List XLB → Frames → Prop
  | [], e, h, gs => LeX e h gs e' h' gs'
  | j :: js, e, h, gs => frzK e h gs j fun e1 h1 gs1 => LeFz e' h' gs' js e1 h1 gs1
theorem LeFz.sle {e' : Env} {h' : List XLB} {gs' : Frames} (gh : List Value) : ∀ {js : List Nat} {e : Env} {h : List XLB} {gs : Frames}, LeFz e' h' gs' js e h gs → SLe B w0 gh (xst n e h gs) (xst n e' h' gs')
  | [], e, h, gs, hh => LeX.sle hh gh
  | j :: js, e, h, gs, hh => by
    obtain ⟨e1, h1, g1, h2, h3⟩ := frzK_ok (n := n) (B := B) (w0 := w0) hh
    exact (h2 gh).trans (LeFz.sle gh h3)
/-- Ways that meet: what is behind them is walked once. -/
theorem XT.cut (O : TabOk P T) {Y : Type} (ds : List Nat) (us : Y → Env) (hs : Y → List (Nat × XLB)) (r : Y → Prop)
    (ha : X P B w0 T n c e h gs fun ex e1 h1 g1 => match ex with
      | .normal => ∃ y, r y ∧ ∃ js, LeFz (us y ++ dropE ds e) (setsH h (hs y)) gs js e1 h1 g1
      | ex => K ex e1 h1 g1)
    (hb : ∀ y, r y → forceE (us y ++ dropE ds e) fun e' => forceH (setsH h (hs y)) fun h' => K .normal e' h' gs) : XT P B w0 n c e h gs K := ⟨fun gh Q hq ρ a w hr => by
  refine wp_mono ((X_ok O ha).ok gh (fun ex σ => match ex with
    | .normal => ∃ σ', SLe B w0 gh σ σ' ∧ Q .normal σ'
    | ex => Q ex σ) (fun ex e1 h1 gs1 hk => ?_) ρ a w hr) fun ex a w ⟨σ, ρ, h1, h2⟩ => ?_
  · cases ex with
    | normal =>
      obtain ⟨y, hy, js, hl⟩ := hk
      have := forceH_ok (k := fun h' => K .normal _ h' gs) (forceE_ok (k := fun e' => forceH (setsH h (hs y)) fun h' => K .normal e' h' gs) (hb y hy))
      exact ⟨_, hl.sle gh, hq _ _ _ _ this⟩
    | _ => exact hq _ _ _ _ hk
  · cases ex with
    | normal =>
      obtain ⟨σ', h3, h4⟩ := h1
      obtain ⟨ρ', h5⟩ := h3 ρ a w h2
      exact ⟨σ', ρ', h4, h5⟩
    | _ => exact ⟨σ, ρ, h1, h2⟩⟩
/-- The walk goes on behind a place where it stopped. -/
theorem XT.pass (O : TabOk P T) {a b : Code} (hx : X P B w0 T n a e h gs fun ex e h gs => match ex with
    | .normal => X P B w0 T n b e h gs K
    | ex => K ex e h gs) : XT P B w0 n (.seq a b) e h gs K := ⟨fun gh Q hq => by
  refine .seq ((X_ok O hx).ok gh _ fun ex e h gs h1 => ?_)
  cases ex with
  | normal => exact (X_ok O h1).ok gh Q hq
  | _ => exact hq _ _ _ _ h1⟩
end
end Go.Proofs.YtpgfhkbnngjegaaGreatDoor

namespace Go.Proofs.YtpgfhkbnngjegaaGreatDoor
open Go.RowKit
set_option linter.unusedVariables false
set_option linter.unusedSimpArgs false

section
variable {P : Program} {B : Nat} {w0 : World} {T : Tab} {n : Nat} {e : Env} {h : List XLB} {gs : Frames} {K : XQ} {c : Code}
theorem lowE_toL (m : Nat) (e : Env) : toL m (mapE (lowX 0) e) = kpL (low 0) (toL m e) := by
  rw [kpL_map]
  simp only [toL, List.map_map]
  exact List.map_congr_left fun d _ => by simp only [Function.comp, look_map (f := lowX 0) rfl, lowX_den]
theorem lowG_denG : ∀ gs : Frames, denG (mapG (lowX 0) gs) = kpL (low 0) (denG gs)
  | [] => rfl
  | f :: r => by simp only [mapG, denG, lowE_toL, lowG_denG r, kpL_map, List.map_append]
/-- All local blocks are given up; a slot that led to one reads its cells. -/
theorem XT.openA (d i : Nat) (ts : List TV) {t : TypeId} {cs : List XV} (hnl : NlL ts) (hd : look e d = .ptr i 0) (hi : hget h i = .cells t cs) (hts : XV.denL cs = ts) (hn : Nat.blt d n = true)
    (hx : forceE ((d, .p (.eptr ts) hnl.eptr) :: mapE (lowX 0) e) fun e' => XT P B w0 n c e' [] (mapG (lowX 0) gs) K) : XT P B w0 n c e h gs K := ⟨fun gh Q hq ρ a w hr => by
  have hdn := Nat.blt_eq.mp hn
  have R := hr.rel
  have h2 : Go.Proofs.YtpgfhkbnngjegaaGreatDoor.hf (h.map XLB.den) i = .cells t (XV.denL cs) := by rw [← hget_den, hi]; rfl
  obtain ⟨g, vs, q1, q2, q3, q4⟩ := R.blk i _ _ h2
  have KK : Keeps ((cxOf B ρ (Go.Proofs.YtpgfhkbnngjegaaGreatDoor.hf (h.map XLB.den)) w).less (low 0)) (cxOf B ρ (Go.Proofs.YtpgfhkbnngjegaaGreatDoor.hf []) w) := ⟨fun k hS hk => ⟨rfl, ⟨fun j hj => by simp [Go.Proofs.YtpgfhkbnngjegaaGreatDoor.hf, LB.here] at hj, fun j hp => by simp [Go.Proofs.YtpgfhkbnngjegaaGreatDoor.hf, LB.ps] at hp⟩, hk⟩, Nat.le_refl _, fun j hj => absurd hj.2 (by simp [low]), fun _ _ _ _ _ h => h, fun j k hj _ _ => absurd hj.2 (by simp [low])⟩
  have s1 : DnL (cxOf B ρ (Go.Proofs.YtpgfhkbnngjegaaGreatDoor.hf []) w) (toL n (mapE (lowX 0) e)) a.tmps.toList := by
    rw [lowE_toL]; exact DnL.keep KK _ _ (DnL.kp (low 0) _ _ hr.slots)
  have s2 : DnL (cxOf B ρ (Go.Proofs.YtpgfhkbnngjegaaGreatDoor.hf []) w) (denG (mapG (lowX 0) gs)) gh := by
    rw [lowG_denG]; exact DnL.keep KK _ _ (DnL.kp (low 0) _ _ hr.ghost)
  have s3 : DnL (cxOf B ρ (Go.Proofs.YtpgfhkbnngjegaaGreatDoor.hf []) w) ts vs := by
    have := DnL.keep KK _ _ (DnL.kp (low 0) _ _ q4)
    rwa [hts, hnl.k] at this
  obtain ⟨u, hu, hu2⟩ := hr.slots.at_ d _ (toL_get? e hdn)
  rw [hd] at hu2
  simp only [XV.den, Dn] at hu2
  obtain ⟨_, g', r1, rfl⟩ := hu2
  have hg : g' = g := by
    have : blkOf (ρ i) = some g' := r1
    rw [q1] at this
    simpa [blkOf] using this.symm
  subst hg
  have s4 : Dn (cxOf B ρ (Go.Proofs.YtpgfhkbnngjegaaGreatDoor.hf []) w) (.eptr ts) (.pointer (some ⟨g', 0, none⟩)) := by
    simp only [Dn]
    refine ⟨_, vs, rfl, ⟨fun j hj => by simp [Go.Proofs.YtpgfhkbnngjegaaGreatDoor.hf, LB.here] at hj, fun j hp => by simp [Go.Proofs.YtpgfhkbnngjegaaGreatDoor.hf, LB.ps] at hp⟩, q2.lt, s3, fun j x hx => ?_⟩
    have : (⟨g', 0, none⟩ : Addr).add j = ⟨g', j, none⟩ := by
      simp [Addr.add]
      exact fun h => h.symm
    rw [this]
    exact (q2.cell j).trans (by simpa using hx)
  refine (forceE_ok (k := fun e' => XT P B w0 n c e' [] (mapG (lowX 0) gs) K) hx).ok gh Q hq ρ a w ⟨?_, s2, Rel.none R.gl0 R.below R.size R.oth, hr.defers⟩
  show DnL _ (toL n _) _
  rw [toL_set _ _ hdn]
  have h5 := s1.set d s4
  have e2 : a.tmps.toList.set d (.pointer (some ⟨g', 0, none⟩)) = a.tmps.toList := by
    apply List.ext_getElem?
    intro k
    rw [List.getElem?_set]
    split
    · rename_i hk; subst hk; split
      · exact hu.symm
      · rename_i h2; rw [List.getElem?_eq_none (by omega)]
    · rfl
  rw [e2] at h5
  exact h5⟩
end
end Go.Proofs.YtpgfhkbnngjegaaGreatDoor

namespace Go.Proofs.YtpgfhkbnngjegaaGreatDoor
open Go.RowKit
set_option linter.unusedVariables false
set_option linter.unusedSimpArgs false
theorem qx10 {p : Prop} (h : p := by
 refine ⟨?_, ?_, ?_⟩
 ·refine leEnv_app (by kernel_rfl) (by kernel_rfl) ?_
  repeat ((conv => whnf); first | exact True.intro | refine ⟨.rfl, ?_⟩ | refine ⟨.any, ?_⟩ | refine ⟨.nil, ?_⟩ | refine ⟨.int (by first | rfl | omega | (simp only [wrs]; omega)), ?_⟩)
 ·repeat (first | exact LeVs.nil | ((conv => whnf); first | exact True.intro | exact .none | exact .ext | exact .row rfl | refine .cells ?_ | refine ⟨_, _, rfl, .rfl, ?_⟩ | refine ⟨_, _, rfl, .any, ?_⟩ | refine ⟨_, _, rfl, .nil, ?_⟩ | refine ⟨_, _, rfl, .int (by first | rfl | omega | (simp only [wrs]; omega)), ?_⟩ | refine ⟨?_, ?_⟩))
  done
 ·exact LeFr.nil) : p := h
theorem qx11 {p : Prop} (h : p := by
 try simp only [bls] at hc1
 conv => whnf
 refine bF (decide_eq_false (by omega)) ?_
 conv => whnf
 refine bF (decide_eq_false (by omega)) ?_
 conv => whnf
 refine bF (decide_eq_false (by omega)) ?_
 conv => whnf
 refine bF (decide_eq_false (by omega)) ?_
 conv => whnf
 refine bF (decide_eq_false (by omega)) ?_
 conv => whnf
 refine FinG.mk none ?_ (by rintro _ ⟨⟩)
 simp only [outs, List.length_map, List.length_append, List.length_take, List.length_drop, List.length_cons, List.length_nil]
 rw [endN_is ha (by omega) (fun c hc => by have := (List.getElem?_eq_some_iff.1 hc).1; omega)]) : p := h
theorem qx12 {p : Prop} (h : p := by
 conv => whnf
 refine bT (decide_eq_true (by omega)) ?_
 conv => whnf
 refine bS (fun hc2 => ?_) (fun hc2 => ?_)
 ·try simp only [bls] at hc2
  conv => whnf
  refine ⟨(k + 1), ⟨by omega, allW_s ha hy (by assumption)⟩, (by omega), ?_⟩
  exact qx10
 ·try simp only [bls] at hc2
  conv => whnf
  refine FinG.mk none ?_ (by rintro _ ⟨⟩)
  simp only [outs, List.length_map, List.length_append, List.length_take, List.length_drop, List.length_cons, List.length_nil]
  rw [endN_is ha (by omega) (fun c hc => by rw [hc] at hy; cases hy; assumption)]) : p := h
theorem qx13 {p : Prop} (h : p := by
 conv => whnf
 refine bF (decide_eq_false (by omega)) ?_
 conv => whnf
 refine bF (decide_eq_false (by omega)) ?_
 conv => whnf
 refine FinG.mk none ?_ (by rintro _ ⟨⟩)
 simp only [outs, List.length_map, List.length_append, List.length_take, List.length_drop, List.length_cons, List.length_nil]
 rw [isL_or c h0 h1]
 simp_all; omega) : p := h
theorem qx14 {p : Prop} (h : p := by
 conv => whnf
 refine FinG.mk none ?_ (by rintro _ ⟨⟩)
 simp only [outs, List.length_map, List.length_append, List.length_take, List.length_drop, List.length_cons, List.length_nil]
 rw [name_at hy]
 simp_all; omega) : p := h
theorem qx15 {p : Prop} (h : p := by
 conv => whnf
 refine FinG.mk none ?_ (by rintro _ ⟨⟩)
 simp only [outs, List.length_map, List.length_append, List.length_take, List.length_drop, List.length_cons, List.length_nil]
 simp_all [isW]; done) : p := h
set_option maxRecDepth 20000
/-- Is it a letter, or _? -/
def isL (c : Int) : Bool := (decide (97 ≤ c) && decide (c ≤ 122)) || (decide (65 ≤ c) && decide (c ≤ 90)) || decide (c = 95)
def isD (c : Int) : Bool := decide (48 ≤ c) && decide (c ≤ 57)
def isW (c : Int) : Bool := isL c || isD c
theorem isL_or (c : Int) (h0 : 0 ≤ c) (h1 : c < 256) : isL c = ((decide (97 ≤ IntKind.u8.wrap ↑(BitVec.ofInt IntKind.u8.bits c ||| BitVec.ofInt IntKind.u8.bits 32).toNat) && decide (IntKind.u8.wrap ↑(BitVec.ofInt IntKind.u8.bits c ||| BitVec.ofInt IntKind.u8.bits 32).toNat ≤ 122)) || decide (c = 95)) := by
  have key : ∀ n : Fin 256, isL (n.val : Int) = ((decide (97 ≤ IntKind.u8.wrap ↑(BitVec.ofInt IntKind.u8.bits (n.val : Int) ||| BitVec.ofInt IntKind.u8.bits 32).toNat) && decide (IntKind.u8.wrap ↑(BitVec.ofInt IntKind.u8.bits (n.val : Int) ||| BitVec.ofInt IntKind.u8.bits 32).toNat ≤ 122)) || decide ((n.val : Int) = 95)) := by decide +kernel
  have := key ⟨c.toNat, by omega⟩
  have e : ((c.toNat : Nat) : Int) = c := by omega
  simp only [e] at this
  exact this
set_option maxRecDepth 20000 in
theorem digit_X (c : Int) : XMeets Tryz.prog 167 [.v (.int .u8 c)] (.p (.v (.bool (isD c))) (nlv _)) := by
 refine XMeets.of_X tabX_ok (avs := [.p (.v (.int .u8 c)) (nlv _)]) [(0, .p (.v (.int .u8 c)) (nlv _))] (by kernel_rfl) Tryz.func167 rfl (by simp [PuL, Pu]) (rfl) rfl rfl ?_
 intro B w0
 conv => whnf
 refine bS (fun hc1 => ?_) (fun hc1 => ?_)
 ·try simp only [bls] at hc1
  conv => whnf
  refine bT (decide_eq_true (by omega)) ?_
  conv => whnf
  refine bT (decide_eq_true (by omega)) ?_
  conv => whnf
  refine FinG.mk none ?_ (by rintro _ ⟨⟩)
  simp only [outs, List.length_map, List.length_append, List.length_take, List.length_drop, List.length_cons, List.length_nil]
  simp_all [isD]
 ·try simp only [bls] at hc1
  conv => whnf
  refine bF (decide_eq_false (by omega)) ?_
  conv => whnf
  refine bF (decide_eq_false (by omega)) ?_
  conv => whnf
  refine FinG.mk none ?_ (by rintro _ ⟨⟩)
  simp only [outs, List.length_map, List.length_append, List.length_take, List.length_drop, List.length_cons, List.length_nil]
  simp_all [isD]; omega
set_option maxRecDepth 20000 in
theorem letter_X (c : Int) (h0 : 0 ≤ c) (h1 : c < 256) : XMeets Tryz.prog 141 [.v (.int .u8 c)] (.p (.v (.bool (isL c))) (nlv _)) := by
 refine XMeets.of_X tabX_ok (avs := [.p (.v (.int .u8 c)) (nlv _)]) [(0, .p (.v (.int .u8 c)) (nlv _))] (by kernel_rfl) Tryz.func141 rfl (by simp [PuL, Pu]) (rfl) rfl rfl ?_
 intro B w0
 conv => whnf
 refine bS (fun hc1 => ?_) (fun hc1 => ?_)
 ·try simp only [bls] at hc1
  try simp (disch := omega) only [wz, Int.reduceAdd, Int.reduceSub, Int.reduceMul, Int.reduceNeg, Int.zero_add, Int.add_zero, Int.sub_zero, Int.sub_self] at hc1
  conv => whnf
  refine bT (decide_eq_true (by omega)) ?_
  conv => whnf
  refine bT (decide_eq_true (by omega)) ?_
  conv => whnf
  refine bT (decide_eq_true (by omega)) ?_
  conv => whnf
  refine bS (fun hc2 => ?_) (fun hc2 => ?_)
  ·try simp only [bls] at hc2
   try simp (disch := omega) only [wz, Int.reduceAdd, Int.reduceSub, Int.reduceMul, Int.reduceNeg, Int.zero_add, Int.add_zero, Int.sub_zero, Int.sub_self] at hc2
   conv => whnf
   refine bT (decide_eq_true (by omega)) ?_
   conv => whnf
   refine bT (decide_eq_true (by omega)) ?_
   conv => whnf
   refine FinG.mk none ?_ (by rintro _ ⟨⟩)
   simp only [outs, List.length_map, List.length_append, List.length_take, List.length_drop, List.length_cons, List.length_nil]
   rw [isL_or c h0 h1]
   simp_all; done
  ·try simp only [bls] at hc2
   try simp (disch := omega) only [wz, Int.reduceAdd, Int.reduceSub, Int.reduceMul, Int.reduceNeg, Int.zero_add, Int.add_zero, Int.sub_zero, Int.sub_self] at hc2
   exact qx13
 ·try simp only [bls] at hc1
  try simp (disch := omega) only [wz, Int.reduceAdd, Int.reduceSub, Int.reduceMul, Int.reduceNeg, Int.zero_add, Int.add_zero, Int.sub_zero, Int.sub_self] at hc1
  conv => whnf
  refine bF (decide_eq_false (by omega)) ?_
  exact qx13
set_option maxRecDepth 20000 in
theorem lettered_X (c : Int) (h0 : 0 ≤ c) (h1 : c < 256) : XMeets Tryz.prog 143 [.v (.int .u8 c)] (.p (.v (.bool (isW c))) (nlv _)) := by
 refine XMeets.of_X tabX_ok (avs := [.p (.v (.int .u8 c)) (nlv _)]) [(0, .p (.v (.int .u8 c)) (nlv _))] (by kernel_rfl) Tryz.func143 rfl (by simp [PuL, Pu]) (rfl) rfl rfl ?_
 intro B w0
 conv => whnf
 refine .ct ?_
 conv => whnf
 refine CallG.mk (letter_X _ (by omega) (by omega)) rfl ?_
 conv => whnf
 refine bS (fun hc1 => ?_) (fun hc1 => ?_)
 ·try simp only [bls] at hc1
  conv => whnf
  refine bT (by assumption) ?_
  conv => whnf
  refine bT (by assumption) ?_
  exact qx15
 ·try simp only [bls] at hc1
  conv => whnf
  refine bF (by assumption) ?_
  conv => whnf
  refine .ct ?_
  conv => whnf
  refine CallG.mk (digit_X _) rfl ?_
  conv => whnf
  refine bF (by assumption) ?_
  exact qx15
/-- How many bytes are so, from the first on. -/
def endN (p : Int → Bool) (l : List UInt8) : Nat := (l.takeWhile fun c => p (c.toNat : Int)).length
def allW (p : Int → Bool) (l : List UInt8) (k : Nat) : Prop := ∀ j c, j < k → l[j]? = some c → p (c.toNat : Int) = true
theorem allW_0 (p : Int → Bool) (l : List UInt8) : allW p l 0 := fun j c hj => by omega
theorem allW_s {p : Int → Bool} {l : List UInt8} {k : Nat} {c : UInt8} (h : allW p l k) (hc : l[k]? = some c) (hp : p (c.toNat : Int) = true) : allW p l (k + 1) := fun j d hj hd => by
  rcases Nat.lt_or_ge j k with h1 | h1
  · exact h j d h1 hd
  · obtain rfl : j = k := by omega
    rw [hc] at hd; injection hd with hd; subst hd; exact hp
theorem endN_is {p : Int → Bool} : ∀ {l : List UInt8} {k : Nat}, allW p l k → k ≤ l.length → (∀ c, l[k]? = some c → p (c.toNat : Int) = false) → endN p l = k
  | [], k, _, hk, _ => by simp at hk; subst hk; rfl
  | a :: l, 0, h, _, hn => by
    have := hn a rfl
    unfold endN
    rw [List.takeWhile_cons_of_neg (by simp [this])]; rfl
  | a :: l, k + 1, h, hk, hn => by
    have h0 := h 0 a (by omega) rfl
    have := endN_is (l := l) (k := k) (fun j c hj hc => h (j + 1) c (by omega) (by simpa using hc)) (by simpa using hk) (fun c hc => hn c (by simpa using hc))
    unfold endN at this ⊢
    rw [List.takeWhile_cons_of_pos (by simp [h0]), List.length_cons, this]
theorem bs_len (s : ByteArray) : (bs s).length = s.size := Array.length_toList
theorem str_ex {s : ByteArray} {m : Int} {Q : Nat → UInt8 → Prop} (k : Nat) (hm : m = (k : Int)) (hk : k < s.size) (h : ∀ y, (bs s)[k]? = some y → 0 ≤ (y.toNat : Int) → (y.toNat : Int) < 256 → Q k y) : ∃ (j : Nat) (c : UInt8), s[j]? = some c ∧ m = (j : Int) ∧ Q j c := by
  have h1 : (bs s)[k]? = some s[k] := by
    rw [List.getElem?_eq_getElem (by rw [bs_len]; exact hk)]
    rfl
  refine ⟨k, s[k], getElem?_pos s k hk, hm, h _ h1 (by omega) ?_⟩
  have := (s[k]).toNat_lt
  omega
set_option maxRecDepth 20000 in
theorem endL_X (s : ByteArray) (hs : s.size ≤ 140737488355328) : XMeets Tryz.prog 142 [.v (.string s), .fn (.func 141) []] (.p (.v (.int .i64 ((endN isL (bs s) : Int)))) (nlv _)) := by
 refine XMeets.of_X tabX_ok (avs := [.p (.v (.string s)) (nlv _), .fu (.func 141) []]) [(0, .p (.v (.string s)) (nlv _)), (1, .fu (.func 141) [])] (by kernel_rfl) Tryz.func142 rfl (by simp [PuL, Pu]) (rfl) rfl rfl ?_
 intro B w0
 have hsl := bs_len s
 conv => whnf
 refine XT.loop tabX_ok (Y := Nat) [5, 6, 7, 8, 9, 10, 11, 12, 13, 14, 15, 16, 17, 18] (fun k => [(5, .p (.v (.int .i64 ((k : Int)))) (nlv _))]) (fun k => []) (fun k => k ≤ (bs s).length ∧ allW isL (bs s) k) (fun k => (bs s).length - k) 0 ⟨Nat.zero_le _, allW_0 _ _⟩ ?_ ?_
 ·exact qx10
 ·rintro k ⟨hk, ha⟩
  conv => whnf
  refine bS (fun hc1 => ?_) (fun hc1 => ?_)
  ·try simp only [bls] at hc1
   conv => whnf
   refine bT (decide_eq_true (by omega)) ?_
   conv => whnf
   refine bT (decide_eq_true (by omega)) ?_
   conv => whnf
   refine bT (decide_eq_true (by omega)) ?_
   conv => whnf
   refine str_ex k rfl (by omega) ?_; intro y hy hy0 hy1
   conv => whnf
   refine bT (decide_eq_true (by omega)) ?_
   conv => whnf
   refine .ct ?_
   conv => whnf
   refine CallG.mk (letter_X _ (by omega) (by omega)) rfl ?_
   exact qx12
  ·exact qx11
set_option maxRecDepth 20000 in
theorem keys_X  : XMeets Tryz.prog 166 [] (.ow 9 1 (keysL.map st1) (nl_st _)) := by
 refine XMeets.of_XM [(2, .row 0)] tabX_ok (avs := []) [] (by kernel_rfl) Tryz.func166 rfl (by simp [PuL, Pu]) (rfl) rfl rfl ?_
 intro B w0
 conv => whnf
 refine XT.openA 1 0 (keysL.map fun s => .v (.string s)) (NlL.of_all fun t ht => by obtain ⟨s, _, rfl⟩ := List.mem_map.1 ht; exact nlv _) rfl rfl rfl rfl ?_
 conv => whnf
 refine XT.pass tabX_ok ?_
 conv => whnf
 refine .ct ?_
 conv => whnf
 refine .cl (els := keysL.map st1) (nl_st _) clone_str rfl (st_len _) (st_one _) (by simp [keysL]) ?_
 conv => whnf
 refine FinG.mk (some 0) ?_ (by rintro _ ⟨⟩; trivial)
 simp only [outs, List.length_map, List.length_append, List.length_take, List.length_drop, List.length_cons, List.length_nil]
 exact fr_st _
/-- Is a text among texts? -/
def inK (zs : List ByteArray) (x : ByteArray) : Bool := zs.any fun z => bsEq x z
def ixS (zs : List ByteArray) (x : ByteArray) : Int := match zs.findIdx? fun z => bsEq x z with
  | some i => (i : Int)
  | none => -1
def noS (zs : List ByteArray) (x : ByteArray) (k : Nat) : Prop := ∀ j z, j < k → zs[j]? = some z → bsEq x z = false
theorem noS_0 (zs : List ByteArray) (x : ByteArray) : noS zs x 0 := fun j z hj => by omega
theorem noS_s {zs : List ByteArray} {x : ByteArray} {k : Nat} {y : ByteArray} (h : noS zs x k) (hy : zs[k]? = some y) (hn : bsEq x y = false) : noS zs x (k + 1) := fun j z hj hz => by
  rcases Nat.lt_or_ge j k with h1 | h1
  · exact h j z h1 hz
  · obtain rfl : j = k := by omega
    rw [hy] at hz; injection hz with hz; subst hz; exact hn
theorem ixS_no {zs : List ByteArray} {x : ByteArray} {k : Nat} (h : noS zs x k) (hk : zs.length ≤ k) : ixS zs x = -1 ∧ inK zs x = false := by
  have hall : ∀ z ∈ zs, bsEq x z = false := fun z hz => by
    obtain ⟨j, hj, rfl⟩ := List.getElem_of_mem hz
    exact h j _ (by omega) (List.getElem?_eq_getElem hj)
  refine ⟨?_, ?_⟩
  · unfold ixS
    rw [List.findIdx?_eq_none_iff.2 hall]
  · unfold inK
    rw [List.any_eq_false]
    intro z hz; simp [hall z hz]
theorem ixS_at {zs : List ByteArray} {x : ByteArray} {k : Nat} {y : ByteArray} (h : noS zs x k) (hy : zs[k]? = some y) (he : bsEq x y = true) : ixS zs x = (k : Int) ∧ inK zs x = true := by
  obtain ⟨hk, rfl⟩ := List.getElem?_eq_some_iff.1 hy
  refine ⟨?_, ?_⟩
  · unfold ixS
    rw [show (zs.findIdx? fun z => bsEq x z) = some k from List.findIdx?_eq_some_iff_getElem.2 ⟨hk, he, fun j hj => by simp [h j _ hj (List.getElem?_eq_getElem (by omega))]⟩]
  · unfold inK
    rw [List.any_eq_true]
    exact ⟨_, List.getElem_mem hk, he⟩
theorem ixS_in (zs : List ByteArray) (x : ByteArray) : decide (0 ≤ ixS zs x) = inK zs x := by
  unfold ixS inK
  cases h : zs.findIdx? fun z => bsEq x z with
  | none =>
    rw [List.findIdx?_eq_none_iff] at h
    have : (zs.any fun z => bsEq x z) = false := by rw [List.any_eq_false]; intro z hz; simp [h z hz]
    rw [this]; rfl
  | some i =>
    obtain ⟨hi, he, _⟩ := List.findIdx?_eq_some_iff_getElem.1 h
    have : (zs.any fun z => bsEq x z) = true := by rw [List.any_eq_true]; exact ⟨_, List.getElem_mem hi, he⟩
    rw [this]; simp
set_option maxRecDepth 20000 in
theorem index_X (b : Bool) (zs : List ByteArray) (x : ByteArray) (hz : zs.length ≤ 100000) : XMeets Tryz.prog 192 [.sl b (zs.map st1), .v (.string x)] (.p (.v (.int .i64 (ixS zs x))) (nlv _)) := by
 refine XMeets.of_X tabX_ok (avs := [.p (.sl false (zs.map st1)) (nl_st _).sl, .p (.v (.string x)) (nlv _)]) [(0, .p (.sl false (zs.map st1)) (nl_st _).sl), (1, .p (.v (.string x)) (nlv _))] (by kernel_rfl) Tryz.func192 rfl (by simp [PuL, Pu, st1, pu_st]) (by simp only [untagL, untag, untag_st]; rfl) rfl rfl ?_
 intro B w0
 conv => whnf
 refine XT.loop tabX_ok (Y := Nat) [4, 5, 8, 9, 10, 11, 12, 13, 14, 15, 16, 17, 18] (fun k => [(8, .p (.v (.int .i64 ((k : Int)))) (nlv _))]) (fun k => []) (fun k => k ≤ zs.length ∧ noS zs x k) (fun k => zs.length - k) 0 ⟨Nat.zero_le _, noS_0 _ _⟩ ?_ ?_
 ·exact qx10
 ·rintro k ⟨hk, hn⟩
  conv => whnf
  refine bS (fun hc1 => ?_) (fun hc1 => ?_)
  ·try simp only [bls] at hc1
   conv => whnf
   refine IdxG.map _ rfl (by first | omega | (simp only [List.length_map] at *; omega)) ?_; intro y hy hny
   conv => whnf
   refine ⟨rfl, ?_⟩
   conv => whnf
   refine bS (fun hc2 => ?_) (fun hc2 => ?_)
   ·try simp only [bls] at hc2
    conv => whnf
    refine FinG.mk none ?_ (by rintro _ ⟨⟩)
    simp only [outs, List.length_map, List.length_append, List.length_take, List.length_drop, List.length_cons, List.length_nil]
    rw [(ixS_at hn hy (by simp_all [bsEq])).1]
   ·try simp only [bls] at hc2
    conv => whnf
    refine ⟨(k + 1), ⟨by omega, noS_s hn hy (by simp_all [bsEq])⟩, (by omega), ?_⟩
    exact qx10
  ·try simp only [bls] at hc1
   conv => whnf
   refine FinG.mk none ?_ (by rintro _ ⟨⟩)
   simp only [outs, List.length_map, List.length_append, List.length_take, List.length_drop, List.length_cons, List.length_nil]
   rw [(ixS_no hn (by omega)).1]
set_option maxRecDepth 20000 in
theorem contains_X (b : Bool) (zs : List ByteArray) (x : ByteArray) (hz : zs.length ≤ 100000) : XMeets Tryz.prog 165 [.sl b (zs.map st1), .v (.string x)] (.p (.v (.bool (inK zs x))) (nlv _)) := by
 refine XMeets.of_X tabX_ok (avs := [.p (.sl false (zs.map st1)) (nl_st _).sl, .p (.v (.string x)) (nlv _)]) [(0, .p (.sl false (zs.map st1)) (nl_st _).sl), (1, .p (.v (.string x)) (nlv _))] (by kernel_rfl) Tryz.func165 rfl (by simp [PuL, Pu, st1, pu_st]) (by simp only [untagL, untag, untag_st]; rfl) rfl rfl ?_
 intro B w0
 conv => whnf
 refine .ct ?_
 conv => whnf
 refine CallG.mk (index_X _ _ _ (by first | assumption | omega)) rfl ?_
 conv => whnf
 refine FinG.mk none ?_ (by rintro _ ⟨⟩)
 simp only [outs, List.length_map, List.length_append, List.length_take, List.length_drop, List.length_cons, List.length_nil]
 rw [← ixS_in]
def upS (s : ByteArray) : ByteArray := ⟨(Lib.toUpperA (bs s)).toArray⟩
/-- A word that is kept, in capitals. -/
def keyN (s : ByteArray) : ByteArray × Bool := if inK keysL (upS s) = true then (upS s, true) else (⟨#[]⟩, false)
/-- A byte in capitals, as a number. -/
def upI (c : Int) : Int := if 97 ≤ c ∧ c ≤ 122 then c - 32 else c
theorem nl_by1 (l : List Int) : NlLL (l.map by1) := nl_b1 l
theorem fr_by1 (l : List Int) : FrLL (l.map by1) := FrLL_map _ _ fun x _ => by simp [by1, FrL, Fr]
theorem numS_at {s : ByteArray} {k : Nat} {y : Int} (h : (numS s)[k]? = some y) : 0 ≤ y ∧ y < 256 := by
  unfold numS at h
  rw [List.getElem?_map] at h
  obtain ⟨c, _, rfl⟩ := Option.map_eq_some_iff.1 h
  have := c.toNat_lt
  omega
theorem upI_B (c : UInt8) : upI (c.toNat : Int) = ((Lib.upperB c).toNat : Int) := by
  unfold upI Lib.upperB Lib.isLowerB
  have key : ∀ n : Fin 256, (if 97 ≤ (n.val : Int) ∧ (n.val : Int) ≤ 122 then (n.val : Int) - 32 else (n.val : Int)) = ((if Lib.isLowerB (UInt8.ofNat n.val) then UInt8.ofNat n.val - 32 else UInt8.ofNat n.val).toNat : Int) := by decide +kernel
  have := key ⟨c.toNat, c.toNat_lt⟩
  simpa [Lib.isLowerB] using this
theorem endN_all {p : Int → Bool} : ∀ {l : List UInt8}, l.length ≤ endN p l → ∀ c ∈ l, p (c.toNat : Int) = true
  | [], _, c, hc => by simp at hc
  | a :: l, h, c, hc => by
    unfold endN at h
    cases hp : p (a.toNat : Int) with
    | false => rw [List.takeWhile_cons_of_neg (by simp [hp])] at h; simp at h
    | true =>
      rw [List.takeWhile_cons_of_pos (by simp [hp])] at h
      simp only [List.length_cons] at h
      rcases List.mem_cons.1 hc with rfl | hc
      · exact hp
      · exact endN_all (l := l) (by unfold endN; omega) c hc
theorem endN_of {p : Int → Bool} : ∀ {l : List UInt8}, (∀ c ∈ l, p (c.toNat : Int) = true) → endN p l = l.length
  | [], _ => rfl
  | a :: l, h => by
    have := endN_of (p := p) (l := l) fun c hc => h c (by simp [hc])
    unfold endN at this ⊢
    rw [List.takeWhile_cons_of_pos (by simp [h a (by simp)]), List.length_cons, this, List.length_cons]
theorem isL_asc {c : UInt8} (h : isL (c.toNat : Int) = true) : c.toNat < 128 := by
  simp only [isL, Bool.or_eq_true, Bool.and_eq_true, decide_eq_true_eq] at h
  omega
theorem keys_cap : ∀ k ∈ keysL, ∀ b ∈ bs k, 65 ≤ b.toNat ∧ b.toNat ≤ 90 := by decide +kernel
theorem cap_L (c : UInt8) (h : 65 ≤ (Lib.upperB c).toNat ∧ (Lib.upperB c).toNat ≤ 90) : isL (c.toNat : Int) = true := by
  have h1 := upI_B c
  have h2 := c.toNat_lt
  unfold upI at h1
  simp only [isL, Bool.or_eq_true, Bool.and_eq_true, decide_eq_true_eq]
  split at h1 <;> omega
theorem bs_upS (s : ByteArray) : bs (upS s) = (bs s).map Lib.upperB := by unfold upS bs Lib.toUpperA; simp
theorem key_no {s : ByteArray} (h : ¬ (bs s).length ≤ endN isL (bs s)) : inK keysL (upS s) = false := by
  cases hk : inK keysL (upS s) with
  | false => rfl
  | true =>
    unfold inK at hk
    rw [List.any_eq_true] at hk
    obtain ⟨k, hm, he⟩ := hk
    have he := (bsEq_t _ _).mp he
    refine absurd ?_ h
    rw [endN_of (p := isL) fun c hc => ?_]
    · exact Nat.le_refl _
    · refine cap_L c ?_
      refine keys_cap k hm _ ?_
      rw [← he, bs_upS]
      exact List.mem_map_of_mem hc
theorem keyN_no {s : ByteArray} (h : inK keysL (upS s) = false) : keyN s = (⟨#[]⟩, false) := by unfold keyN; rw [if_neg (by simp [h])]
theorem keyN_yes {s : ByteArray} (h : inK keysL (upS s) = true) : keyN s = (upS s, true) := by unfold keyN; rw [if_pos h]
set_option maxRecDepth 20000 in
theorem key_X (s : ByteArray) (hs : s.size ≤ 140737488355328) : XMeets Tryz.prog 140 [.v (.string s)] (.tu [.p (.v (.string ((keyN s).1))) (nlv _), .p (.v (.bool ((keyN s).2))) (nlv _)]) := by
 refine XMeets.of_X tabX_ok (avs := [.p (.v (.string s)) (nlv _)]) [(0, .p (.v (.string s)) (nlv _))] (by kernel_rfl) Tryz.func140 rfl (by simp [PuL, Pu]) (rfl) rfl rfl ?_
 intro B w0
 have hsl := bs_len s
 conv => whnf
 refine .ct ?_
 conv => whnf
 refine CallG.mk (endL_X s hs) rfl ?_
 conv => whnf
 refine bS (fun hc1 => ?_) (fun hc1 => ?_)
 ·try simp only [bls] at hc1
  conv => whnf
  refine FinG.mk none ?_ (by rintro _ ⟨⟩)
  simp only [outs, List.length_map, List.length_append, List.length_take, List.length_drop, List.length_cons, List.length_nil]
  rw [keyN_no (key_no (by omega))]
  exact ⟨rfl, rfl⟩
 ·try simp only [bls] at hc1
  conv => whnf
  refine .ct ?_
  conv => whnf
  refine CallG.mk (upper_X s hs (fun b hb => isL_asc (endN_all (p := isL) (by omega) b hb))) rfl ?_
  conv => whnf
  refine .ct ?_
  conv => whnf
  refine CallG.mk (keys_X) rfl ?_
  conv => whnf
  refine .ct ?_
  conv => whnf
  refine CallG.mk (contains_X _ _ _ (by first | assumption | omega | (simp [keysL]; done))) rfl ?_
  conv => whnf
  refine bS (fun hc2 => ?_) (fun hc2 => ?_)
  ·try simp only [bls] at hc2
   conv => whnf
   refine FinG.mk none ?_ (by rintro _ ⟨⟩)
   simp only [outs, List.length_map, List.length_append, List.length_take, List.length_drop, List.length_cons, List.length_nil]
   rw [keyN_no (by simp_all [upS])]
   exact ⟨rfl, rfl⟩
  ·try simp only [bls] at hc2
   conv => whnf
   refine FinG.mk none ?_ (by rintro _ ⟨⟩)
   simp only [outs, List.length_map, List.length_append, List.length_take, List.length_drop, List.length_cons, List.length_nil]
   rw [keyN_yes (by simp_all [upS])]
   exact ⟨rfl, rfl⟩
theorem bs_ext {a b : ByteArray} (h : bs a = bs b) : a = b := by
  cases a; cases b
  simp only [bs] at h
  congr 1
  exact Array.ext' h
/-- Is a text a word? -/
def wordB (s : ByteArray) : Bool := match bs s with
  | [] => false
  | a :: l => isL (a.toNat : Int) && decide (endN isW (a :: l) = (a :: l).length)
def nameB (s : ByteArray) : Bool := wordB s && !(keyN s).2 && decide (s.size ≤ 24)
set_option maxRecDepth 20000 in
theorem endW_X (s : ByteArray) (hs : s.size ≤ 140737488355328) : XMeets Tryz.prog 142 [.v (.string s), .fn (.func 143) []] (.p (.v (.int .i64 ((endN isW (bs s) : Int)))) (nlv _)) := by
 refine XMeets.of_X tabX_ok (avs := [.p (.v (.string s)) (nlv _), .fu (.func 143) []]) [(0, .p (.v (.string s)) (nlv _)), (1, .fu (.func 143) [])] (by kernel_rfl) Tryz.func142 rfl (by simp [PuL, Pu]) (rfl) rfl rfl ?_
 intro B w0
 have hsl := bs_len s
 conv => whnf
 refine XT.loop tabX_ok (Y := Nat) [5, 6, 7, 8, 9, 10, 11, 12, 13, 14, 15, 16, 17, 18] (fun k => [(5, .p (.v (.int .i64 ((k : Int)))) (nlv _))]) (fun k => []) (fun k => k ≤ (bs s).length ∧ allW isW (bs s) k) (fun k => (bs s).length - k) 0 ⟨Nat.zero_le _, allW_0 _ _⟩ ?_ ?_
 ·exact qx10
 ·rintro k ⟨hk, ha⟩
  conv => whnf
  refine bS (fun hc1 => ?_) (fun hc1 => ?_)
  ·try simp only [bls] at hc1
   conv => whnf
   refine bT (decide_eq_true (by omega)) ?_
   conv => whnf
   refine bT (decide_eq_true (by omega)) ?_
   conv => whnf
   refine bT (decide_eq_true (by omega)) ?_
   conv => whnf
   refine str_ex k rfl (by omega) ?_; intro y hy hy0 hy1
   conv => whnf
   refine bT (decide_eq_true (by omega)) ?_
   conv => whnf
   refine .ct ?_
   conv => whnf
   refine CallG.mk (lettered_X _ (by omega) (by omega)) rfl ?_
   exact qx12
  ·exact qx11
theorem bsEq_n (s : ByteArray) : bsEq s ⟨#[]⟩ = decide (bs s = []) := by
  unfold bsEq
  rw [show bs ⟨#[]⟩ = ([] : List UInt8) from rfl]
  cases bs s <;> simp
theorem name_nil {s : ByteArray} (h : bs s = []) : nameB s = false := by simp [nameB, wordB, h]
theorem name_long {s : ByteArray} (h : 24 < s.size) : nameB s = false := by unfold nameB; rw [decide_eq_false (by omega)]; simp
theorem name_at {s : ByteArray} {y : UInt8} (hy : (bs s)[0]? = some y) : nameB s = (decide (s.size ≤ 24) && isL (y.toNat : Int) && decide (endN isW (bs s) = (bs s).length) && !(keyN s).2) := by
  unfold nameB wordB
  cases h : bs s with
  | nil => rw [h] at hy; simp at hy
  | cons a l =>
    rw [h] at hy
    simp at hy
    subst hy
    simp only
    cases isL (a.toNat : Int) <;> cases decide (endN isW (a :: l) = (a :: l).length) <;> cases (keyN s).2 <;> simp
set_option maxRecDepth 20000 in
theorem name_X (s : ByteArray) (hs : s.size ≤ 140737488355328) : XMeets Tryz.prog 103 [.v (.string s)] (.p (.v (.bool (nameB s))) (nlv _)) := by
 refine XMeets.of_X tabX_ok (avs := [.p (.v (.string s)) (nlv _)]) [(0, .p (.v (.string s)) (nlv _))] (by kernel_rfl) Tryz.func103 rfl (by simp [PuL, Pu]) (rfl) rfl rfl ?_
 intro B w0
 have hsl := bs_len s
 by_cases hne : bs s = []
 ·conv => whnf
  refine .ct ?_
  conv => whnf
  refine CallG.mk (key_X _ (by first | assumption | omega)) rfl ?_
  conv => whnf
  refine bF (by simp [bsEq_n, hne]; done) ?_
  conv => whnf
  refine bF (by simp [bsEq_n, hne]; done) ?_
  conv => whnf
  refine bF (by simp [bsEq_n, hne]; done) ?_
  conv => whnf
  refine bF (by simp [bsEq_n, hne]; done) ?_
  conv => whnf
  refine FinG.mk none ?_ (by rintro _ ⟨⟩)
  simp only [outs, List.length_map, List.length_append, List.length_take, List.length_drop, List.length_cons, List.length_nil]
  rw [name_nil hne]
 ·have hpos : 0 < (bs s).length := List.length_pos_iff.2 hne
  conv => whnf
  refine .ct ?_
  conv => whnf
  refine CallG.mk (key_X _ (by first | assumption | omega)) rfl ?_
  conv => whnf
  refine bT (by simp [bsEq_n, hne]; done) ?_
  conv => whnf
  refine bT (by simp [bsEq_n, hne]; done) ?_
  conv => whnf
  refine bT (by simp [bsEq_n, hne]; done) ?_
  conv => whnf
  refine bT (by simp [bsEq_n, hne]; done) ?_
  conv => whnf
  refine bS (fun hc1 => ?_) (fun hc1 => ?_)
  ·try simp only [bls] at hc1
   conv => whnf
   refine bT (decide_eq_true (by omega)) ?_
   conv => whnf
   refine str_ex 0 rfl (by omega) ?_; intro y hy hy0 hy1
   conv => whnf
   refine bT (decide_eq_true (by omega)) ?_
   conv => whnf
   refine .ct ?_
   conv => whnf
   refine CallG.mk (letter_X _ (by omega) (by omega)) rfl ?_
   conv => whnf
   refine bT (decide_eq_true (by omega)) ?_
   conv => whnf
   refine bS (fun hc2 => ?_) (fun hc2 => ?_)
   ·try simp only [bls] at hc2
    conv => whnf
    refine bT (by assumption) ?_
    conv => whnf
    refine .ct ?_
    conv => whnf
    refine CallG.mk (endW_X s hs) rfl ?_
    conv => whnf
    refine bT (by assumption) ?_
    conv => whnf
    refine bT (by assumption) ?_
    conv => whnf
    refine bT (by assumption) ?_
    conv => whnf
    refine bT (by assumption) ?_
    conv => whnf
    refine bS (fun hc3 => ?_) (fun hc3 => ?_)
    ·try simp only [bls] at hc3
     conv => whnf
     refine bT (decide_eq_true (by omega)) ?_
     conv => whnf
     refine bT (decide_eq_true (by omega)) ?_
     exact qx14
    ·try simp only [bls] at hc3
     conv => whnf
     refine bF (decide_eq_false (by omega)) ?_
     conv => whnf
     refine bF (decide_eq_false (by omega)) ?_
     exact qx14
   ·try simp only [bls] at hc2
    conv => whnf
    refine bF (by assumption) ?_
    conv => whnf
    refine bF (by assumption) ?_
    conv => whnf
    refine bF (by assumption) ?_
    conv => whnf
    refine bF (by assumption) ?_
    conv => whnf
    refine bF (by assumption) ?_
    conv => whnf
    refine FinG.mk none ?_ (by rintro _ ⟨⟩)
    simp only [outs, List.length_map, List.length_append, List.length_take, List.length_drop, List.length_cons, List.length_nil]
    rw [name_at hy]
    simp_all; done
  ·try simp only [bls] at hc1
   conv => whnf
   refine bF (decide_eq_false (by omega)) ?_
   conv => whnf
   refine bF (decide_eq_false (by omega)) ?_
   conv => whnf
   refine bF (decide_eq_false (by omega)) ?_
   conv => whnf
   refine FinG.mk none ?_ (by rintro _ ⟨⟩)
   simp only [outs, List.length_map, List.length_append, List.length_take, List.length_drop, List.length_cons, List.length_nil]
   rw [name_long (by omega)]
theorem word_no {s : ByteArray} {k : Nat} {y : UInt8} (hy : (bs s)[k]? = some y) (h : isL (y.toNat : Int) = false) (h2 : k = 0 ∨ isD (y.toNat : Int) = false) : wordB s = false := by
  unfold wordB
  cases hs : bs s with
  | nil => rfl
  | cons a l =>
    rw [hs] at hy
    simp only
    cases k with
    | zero => simp at hy; subst hy; rw [h]; rfl
    | succ k =>
      have h3 : isD (y.toNat : Int) = false := by rcases h2 with h2 | h2 <;> first | exact h2 | omega
      rw [decide_eq_false (fun e => ?_)]
      · simp
      · have := endN_all (p := isW) (l := a :: l) (by omega) y (List.mem_of_getElem? hy)
        simp [isW, h, h3] at this
end Go.Proofs.YtpgfhkbnngjegaaGreatDoor
