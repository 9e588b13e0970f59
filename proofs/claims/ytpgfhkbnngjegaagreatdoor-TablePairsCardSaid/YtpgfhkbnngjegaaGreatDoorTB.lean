/- Tables, as trees. No condition. -/
import Derived.Test.YtpgfhkbnngjegaaGreatDoorU17
import Derived.Test.YtpgfhkbnngjegaaGreatDoorT17
import Derived.Test.YtpgfhkbnngjegaaGreatDoorU3
import Derived.Test.YtpgfhkbnngjegaaGreatDoorX1
import Derived.Test.YtpgfhkbnngjegaaGreatDoorU7
namespace Go.Proofs.YtpgfhkbnngjegaaGreatDoor
open Go.RowKit
set_option linter.unusedVariables false
set_option linter.unusedSimpArgs false

/-- A store to come: its number, the block, the place in it, how many cells, and does an operation ahead of it read these. -/
structure FT where
  q : Nat
  i : Nat
  off : Nat
  len : Nat
  old : Bool
structure FX where
  q : Nat
  i : Nat
  off : Nat
  ol : List XV
  old : Bool
def FX.den (f : FX) : FsE := ⟨f.q, f.i, f.off, XV.denL f.ol, f.old⟩
def FT.den (f : FT) : FsE := ⟨f.q, f.i, f.off, List.replicate f.len .any, f.old⟩
theorem disF_no (a b : FsE) : disF a.no b.no = disF a b := by simp [disF, FsE.no]
theorem disAll_no : ∀ (l : List FsE), disAll (l.map FsE.no) = disAll l
  | [] => rfl
  | f :: r => by
    simp only [List.map_cons, disAll, disAll_no r, List.all_map]
    congr 1
    apply congrArg (fun p => List.all r p)
    funext g
    simp only [Function.comp, disF_no]
    rfl
section
variable {P : Program} {B : Nat} {w0 : World} {T : Tab} {n : Nat} {gh : List Value} {Q : Exit → St → Prop}
/-- What lies in the cells is kept aside, and forgotten. -/
def knowAll : List FT → List XLB → List XLB → (List FX → List XLB → Prop) → Prop
  | [], _, h, k => k [] h
  | x :: r, h0, h, k => cellsAtK h0 x.i fun _ cs => match Nat.ble (x.off + x.len) cs.length with
    | true => dropK x.off cs fun c1 => takeK x.len c1 fun ol => cellsAtK h x.i fun t' cs' => putsK cs' x.off (List.replicate x.len .any) fun c2 => setK h x.i (.cells t' c2) fun h' => knowAll r h0 h' fun fs h'' => k (⟨x.q, x.i, x.off, ol, x.old⟩ :: fs) h''
    | false => False
theorem setF_cons {f : FsE} {r : List FsE} {h : List LB} {t : TypeId} {cs : List TV} (hi : hf h f.i = .cells t cs) : setF h (f :: r) = setF (h.set f.i (.cells t (setsV cs f.off f.ol))) r := by simp only [setF, hi]
theorem knowAll_ok {h0 : List XLB} : ∀ {ts : List FT} {h : List XLB} {k : List FX → List XLB → Prop}, knowAll ts h0 h k → ∃ fs h', k fs h' ∧ h'.map XLB.den = setF (h.map XLB.den) ((fs.map FX.den).map FsE.no) ∧ (fs.map FX.den).map FsE.no = ts.map FT.den ∧
    ∀ f ∈ fs.map FX.den, ∃ t cs, hf (h0.map XLB.den) f.i = .cells t cs ∧ f.off + f.ol.length ≤ cs.length ∧ (f.old = true → (cs.drop f.off).take f.ol.length = f.ol)
  | [], h, k, hh => ⟨[], h, hh, rfl, rfl, by simp⟩
  | x :: r, h, k, hh => by
    obtain ⟨t, cs, h1, _, hh⟩ := cellsAtK_ok hh
    split at hh
    · rename_i hle
      have hle := Nat.le_of_ble_eq_true hle
      have hh := takeK_ok (k := fun ol => cellsAtK h x.i fun t' cs' => putsK cs' x.off (List.replicate x.len .any) fun c2 => setK h x.i (.cells t' c2) fun h' => knowAll r h0 h' fun fs h'' => k (⟨x.q, x.i, x.off, ol, x.old⟩ :: fs) h'') (dropK_ok (k := fun c1 => takeK x.len c1 fun ol => cellsAtK h x.i fun t' cs' => putsK cs' x.off (List.replicate x.len .any) fun c2 => setK h x.i (.cells t' c2) fun h' => knowAll r h0 h' fun fs h'' => k (⟨x.q, x.i, x.off, ol, x.old⟩ :: fs) h'') hh)
      obtain ⟨t', cs', h2, _, hh⟩ := cellsAtK_ok hh
      have hh := setK_ok (k := fun h' => knowAll r h0 h' fun fs h'' => k (⟨x.q, x.i, x.off, (cs.drop x.off).take x.len, x.old⟩ :: fs) h'') (putsK_ok (k := fun c2 => setK h x.i (.cells t' c2) fun h' => knowAll r h0 h' fun fs h'' => k (⟨x.q, x.i, x.off, (cs.drop x.off).take x.len, x.old⟩ :: fs) h'') hh)
      obtain ⟨fs, h', e1, e2, e3, e4⟩ := knowAll_ok hh
      have hlen : (XV.denL ((cs.drop x.off).take x.len)).length = x.len := by rw [denL_map, List.length_map, List.length_take, List.length_drop]; omega
      have hno : FsE.no (FX.den ⟨x.q, x.i, x.off, (cs.drop x.off).take x.len, x.old⟩) = FT.den x := by
        simp only [FsE.no, FX.den, FT.den, hlen]
      refine ⟨_, h', e1, ?_, ?_, fun f hf => ?_⟩
      · simp only [List.map_cons, hno]
        rw [setF_cons (show hf (h.map XLB.den) (FT.den x).i = _ from h2), e2]
        have hr : XV.denL (List.replicate x.len XV.any) = List.replicate x.len TV.any := by rw [denL_map, List.map_replicate]; rfl
        simp only [List.map_set, XLB.den, denL_setsV, hr, FT.den]
      · simp only [List.map_cons, hno, e3]
      · rw [List.map_cons] at hf
        rcases List.mem_cons.1 hf with rfl | hf
        · refine ⟨t, _, h1, ?_, fun _ => ?_⟩
          · simp only [FX.den, hlen]
            rw [denL_map, List.length_map]; exact hle
          · simp only [FX.den, hlen]
            rw [denL_map, denL_map, List.map_take, List.map_drop]
        · exact e4 f hf
    · exact hh.elim
/-- Cells that are known again. -/
def setFK : List FX → List XLB → (List XLB → Prop) → Prop
  | [], h, k => k h
  | f :: r, h, k => cellsAtK h f.i fun t cs => putsK cs f.off f.ol fun c2 => setK h f.i (.cells t c2) fun h' => setFK r h' k
theorem setFK_ok : ∀ {fs : List FX} {h : List XLB} {k : List XLB → Prop}, setFK fs h k → ∃ h', h'.map XLB.den = setF (h.map XLB.den) (fs.map FX.den) ∧ k h'
  | [], h, k, hh => ⟨h, rfl, hh⟩
  | f :: r, h, k, hh => by
    obtain ⟨t, cs, h2, _, hh⟩ := cellsAtK_ok hh
    have hh := setK_ok (k := fun h' => setFK r h' k) (putsK_ok (k := fun c2 => setK h f.i (.cells t c2) fun h' => setFK r h' k) hh)
    obtain ⟨h', e1, e2⟩ := setFK_ok hh
    refine ⟨h', ?_, e2⟩
    rw [e1, List.map_cons, setF_cons (show hf (h.map XLB.den) (FX.den f).i = _ from h2)]
    simp only [List.map_set, XLB.den, denL_setsV, FX.den]
/-- Which of these are still to come for certain. -/
def knK (L : List Oper) (p : Nat) : List FX → (List FX → Prop) → Prop
  | [], k => k []
  | f :: r, k => match f.old && reachB L p 8 f.q with
    | true => knK L p r fun l => k (f :: l)
    | false => knK L p r k
theorem knK_ok {L : List Oper} {p : Nat} : ∀ {fs : List FX} {k : List FX → Prop}, knK L p fs k → ∃ kn, (∀ f ∈ kn, f ∈ fs ∧ f.old = true ∧ reachB L p 8 f.q = true) ∧ k kn
  | [], k, hh => ⟨[], by simp, hh⟩
  | f :: r, k, hh => by
    unfold knK at hh
    split at hh
    · rename_i hb
      simp only [Bool.and_eq_true] at hb
      obtain ⟨kn, h1, h2⟩ := knK_ok hh
      refine ⟨f :: kn, fun g hg => ?_, h2⟩
      rcases List.mem_cons.1 hg with rfl | hg
      · exact ⟨by simp, hb⟩
      · exact ⟨List.mem_cons_of_mem _ (h1 g hg).1, (h1 g hg).2⟩
    · obtain ⟨kn, h1, h2⟩ := knK_ok hh
      exact ⟨kn, fun g hg => ⟨List.mem_cons_of_mem _ (h1 g hg).1, (h1 g hg).2⟩, h2⟩
def FX.hit (p i off len : Nat) (f : FX) : Bool := Nat.beq f.q p && (Nat.beq f.i i && (Nat.beq f.off off && Nat.beq f.ol.length len))
def stoK (T : Tab) (n : Nat) (fs : List FX) (p : Nat) (e : Env) (h : List XLB) (t : TypeId) (x y : Operand) (pd : List FX) (k : List FX → Prop) : Prop := tyK T t fun ti => cellsK (xev n e y) fun l => isK l.length ti.n (match allOne l with
  | false => False
  | true => match xev n e x with
    | .ptr i off => cellsAtK h i fun t0 cs => match Nat.ble (off + l.length) cs.length with
      | true => match fs.any (FX.hit p i off l.length) with
        | true => setsV (XV.denL cs) off (List.replicate l.length .any) = XV.denL cs ∧ k (pd ++ [⟨0, i, off, l, false⟩])
        | false => False
      | false => False
    | _ => False)
def isLoad : Op → Bool
  | .load _ _ => true
  | _ => false
def pdk (ds : List StD) (pd : List FX) : Prop := ds.map StD.f = pd.map FX.den
end
end Go.Proofs.YtpgfhkbnngjegaaGreatDoor

namespace Go.Proofs.YtpgfhkbnngjegaaGreatDoor
open Go.RowKit
set_option linter.unusedVariables false
set_option linter.unusedSimpArgs false

section
variable {P : Program} {Q : Exit → Act → World → Prop} {ops : Array Oper} {d : Nat}
end
section
variable {P : Program} {B : Nat} {w0 : World} {T : Tab} {n : Nat} {e : Env} {h : List XLB} {gs : Frames}
end
end Go.Proofs.YtpgfhkbnngjegaaGreatDoor

namespace Go.Proofs.YtpgfhkbnngjegaaGreatDoor
open Go.RowKit
set_option linter.unusedVariables false
set_option linter.unusedSimpArgs false

def wP : (t : TV) → Nl t → XV
  | .v x, h => .p (.v x) h
  | .nil_, h => .p .nil_ h
  | .any, _ | .agg _, _ | .tup _, _ | .fn _ _, _ | .ptr _ _, _ | .row _, _ | .sl _ _, _ | .eptr _, _ | .osl _ _ _, _ | .z _ _, _ | .win _ _ _, _ => .any
mutual
/-- What is still told where memory that is no local block's was written over. -/
def wX : XV → XV
  | .p t h => wP t h
  | .pin u t h => .pin u t h
  | .row i => .row i
  | .ptr i off => .ptr i off
  | .rp i k sz j => .rp i k sz j
  | .z i t h => .z i t h
  | .win i k sz => .win i k sz
  | .ag vs => .ag (wXL vs)
  | .tu vs => .tu (wXL vs)
  | .fu f vs => .fu f (wXL vs)
  | .any => .any
  | .ow _ _ _ _ => .any
def wXL : List XV → List XV
  | [] => []
  | v :: vs => wX v :: wXL vs
end
mutual
theorem wX_dn {C C' : Cx} (hl : ∀ i, C.pres i → C'.pres i ∧ C'.ρ i = C.ρ i) (hz : ∀ i t u, C.pres i → DnZ C.w (C.Z i) C.B t u → DnZ C'.w (C'.Z i) C'.B t u) : ∀ (v : XV) (u : Value), Dn C v.den u → Dn C' (wX v).den u
  | .p t hp, u, h => by cases t <;> simp only [wX, wP, XV.den, Dn] at h ⊢ <;> exact h
  | .pin x t hn, u, h => by simp only [wX, XV.den, Dn] at h ⊢; exact h
  | .row i, u, h => by
    simp only [wX, XV.den, Dn] at h ⊢
    exact ⟨(hl i h.1).1, by rw [(hl i h.1).2]; exact h.2⟩
  | .ptr i off, u, h => by
    simp only [wX, XV.den, Dn] at h ⊢
    obtain ⟨h1, g, h2, h3⟩ := h
    exact ⟨(hl i h1).1, g, by rw [(hl i h1).2]; exact h2, h3⟩
  | .rp i k sz j, u, h => by
    simp only [wX, XV.den, Dn] at h ⊢
    obtain ⟨h1, g, h2, h3⟩ := h
    exact ⟨(hl i h1).1, g, by rw [(hl i h1).2]; exact h2, h3⟩
  | .z i t hn, u, h => by
    simp only [wX, XV.den, Dn] at h ⊢
    exact ⟨(hl i h.1).1, hz i t u h.1 h.2⟩
  | .win i k sz, u, h => by
    simp only [wX, XV.den, Dn] at h ⊢
    obtain ⟨h1, g, n, c, h2, h3⟩ := h
    exact ⟨(hl i h1).1, g, n, c, by rw [(hl i h1).2]; exact h2, h3⟩
  | .ag vs, u, h => by
    simp only [wX, XV.den, Dn] at h ⊢
    obtain ⟨us, h1, h2⟩ := h
    exact ⟨us, h1, wXL_dn hl hz vs us h2⟩
  | .tu vs, u, h => by
    simp only [wX, XV.den, Dn] at h ⊢
    obtain ⟨us, h1, h2⟩ := h
    exact ⟨us, h1, wXL_dn hl hz vs us h2⟩
  | .fu f vs, u, h => by
    simp only [wX, XV.den, Dn] at h ⊢
    obtain ⟨us, h1, h2⟩ := h
    exact ⟨us, h1, wXL_dn hl hz vs us h2⟩
  | .any, u, _ => by simp [wX, XV.den, Dn]
  | .ow _ _ _ _, u, _ => by simp [wX, XV.den, Dn]
theorem wXL_dn {C C' : Cx} (hl : ∀ i, C.pres i → C'.pres i ∧ C'.ρ i = C.ρ i) (hz : ∀ i t u, C.pres i → DnZ C.w (C.Z i) C.B t u → DnZ C'.w (C'.Z i) C'.B t u) : ∀ (vs : List XV) (us : List Value), DnL C (XV.denL vs) us → DnL C' (XV.denL (wXL vs)) us
  | [], us, h => by simp only [wXL, XV.denL, DnL] at h ⊢; exact h
  | v :: vs, us, h => by
    simp only [wXL, XV.denL, DnL] at h ⊢
    obtain ⟨u, us', h1, h2, h3⟩ := h
    exact ⟨u, us', h1, wX_dn hl hz v u h2, wXL_dn hl hz vs us' h3⟩
end
section
variable {P : Program} {B : Nat} {w0 : World} {n : Nat} {e : Env} {h : List XLB} {gs : Frames}
end
section
variable {P : Program} {B : Nat} {w0 : World} {T : Tab} {n : Nat} {e : Env} {h : List XLB} {gs : Frames} {K : XQ} {c : Code}
end
section
variable {P : Program} {B : Nat} {w0 : World} {n : Nat} {e : Env} {h : List XLB} {gs : Frames}
/-- The trees of values that lie in the blocks that the local block i takes. -/
def unzP : (t : TV) → Option TV
  | .v x => some (.v x)
  | .nil_ => some (.sl true [])
  | .any | .agg _ | .tup _ | .fn _ _ | .ptr _ _ | .row _ | .sl _ _ | .eptr _ | .osl _ _ _ | .z _ _ | .win _ _ _ => none
mutual
def unzX (i : Nat) : XV → Option TV
  | .p t _ => unzP t
  | .z j t _ => match Nat.beq j i with
    | true => some t
    | false => none
  | .ag vs => match unzXL i vs with
    | some ts => some (.agg ts)
    | none => none
  | .any | .row _ | .ptr _ _ | .rp _ _ _ _ | .tu _ | .fu _ _ | .ow _ _ _ _ | .pin _ _ _ | .win _ _ _ => none
def unzXL (i : Nat) : List XV → Option (List TV)
  | [] => some []
  | v :: vs => match unzX i v with
    | some t => match unzXL i vs with
      | some ts => some (t :: ts)
      | none => none
    | none => none
end
/-- The blocks that a local block takes, and they alone. -/
def zCx (C : Cx) (i : Nat) : Cx := ⟨C.w, C.Z i, C.B, fun _ => .nilFunc, fun _ => False, fun _ _ _ _ _ => False, fun _ _ => False⟩
mutual
theorem unz_dn {C : Cx} {i : Nat} : ∀ (v : XV) (t : TV) (u : Value), unzX i v = some t → Dn C v.den u → Dn (zCx C i) t u
  | .p t0 hp, t, u, e, h => by
    cases t0 <;> simp only [unzX, unzP, Option.some.injEq, reduceCtorEq] at e
    · subst e; simp only [XV.den, Dn] at h ⊢; exact h
    · subst e
      simp only [XV.den, Dn] at h ⊢
      exact ⟨none, 0, [], 0, h, Nat.le_refl _, by simp [maxLen], by simp, by simp, by simp [DnLL], fun ad ha => by cases ha⟩
  | .z j t0 hp, t, u, e, h => by
    simp only [unzX] at e
    split at e
    · rename_i hb
      injection e with e
      subst e
      obtain rfl := Nat.eq_of_beq_eq_true hb
      simp only [XV.den, Dn] at h
      exact DnZ.dn (C := zCx C j) (fun k hk _ => hk) (Nat.le_refl _) _ _ h.2
    · cases e
  | .ag vs, t, u, e, h => by
    simp only [unzX] at e
    split at e
    · rename_i ts hts
      injection e with e
      subst e
      simp only [XV.den, Dn] at h ⊢
      obtain ⟨us, h1, h2⟩ := h
      exact ⟨us, h1, unzL_dn vs ts us hts h2⟩
    · cases e
  | .any, t, u, e, _ | .row _, t, u, e, _ | .ptr _ _, t, u, e, _ | .rp _ _ _ _, t, u, e, _ | .tu _, t, u, e, _ | .fu _ _, t, u, e, _ | .ow _ _ _ _, t, u, e, _ | .pin _ _ _, t, u, e, _ | .win _ _ _, t, u, e, _ => by simp [unzX] at e
theorem unzL_dn {C : Cx} {i : Nat} : ∀ (vs : List XV) (ts : List TV) (us : List Value), unzXL i vs = some ts → DnL C (XV.denL vs) us → DnL (zCx C i) ts us
  | [], ts, us, e, h => by
    simp only [unzXL, Option.some.injEq] at e
    subst e
    simp only [XV.denL, DnL] at h ⊢
    exact h
  | v :: vs, ts, us, e, h => by
    simp only [unzXL] at e
    split at e
    · rename_i t ht
      split at e
      · rename_i ts' hts
        injection e with e
        subst e
        simp only [XV.denL, DnL] at h ⊢
        obtain ⟨u, us', h1, h2, h3⟩ := h
        exact ⟨u, us', h1, unz_dn v t u ht h2, unzL_dn vs ts' us' hts h3⟩
      · cases e
    · cases e
end
end
end Go.Proofs.YtpgfhkbnngjegaaGreatDoor

namespace Go.Proofs.YtpgfhkbnngjegaaGreatDoor
open Go.RowKit
set_option linter.unusedVariables false
set_option linter.unusedSimpArgs false

theorem DnL.frz {C : Cx} {S : Nat → Prop} {B : Nat} (hS : ∀ k, C.S k → C.B ≤ k → k < C.w.heap.size → S k) (hB : B ≤ C.B) (ts : List TV) (us : List Value) (hp : PuL ts) (hf : FrL ts) (h : DnL C ts us) : DnZL C.w S B ts us := by
  have h1 := DnL.fr (C := C) (C' := { C with S := fun k => C.S k ∧ C.B ≤ k }) rfl (Nat.le_refl _) (fun k h1 h2 _ => ⟨h1, h2⟩) ts us hf h
  exact DnL.toZ (C := { C with S := fun k => C.S k ∧ C.B ≤ k }) (fun k hk hl => hS k hk.1 hk.2 hl) hB ts us hp h1
section
variable {C C' : Cx} {j : Nat}
mutual
theorem zt_fr (hw : C'.w = C.w) (hn : C'.pres j) (hS : ∀ k, C.S k → C.B ≤ k → k < C.w.heap.size → C'.Z j k) (hB : C'.B ≤ C.B) : ∀ (t : TV) (u : Value), Pu t → Fr t → Dn C t u → Dn C' (zt j t) u
  | .any, _, _, _, _ => by simp [Dn, Go.Proofs.YtpgfhkbnngjegaaGreatDoor.zt]
  | .v x, u, _, _, h => by simp only [Dn, Go.Proofs.YtpgfhkbnngjegaaGreatDoor.zt] at h ⊢; exact h
  | .nil_, u, _, _, h => by simp only [Dn, Go.Proofs.YtpgfhkbnngjegaaGreatDoor.zt] at h ⊢; exact h
  | .agg ts, u, p, f, h => by
    simp only [Dn, Go.Proofs.YtpgfhkbnngjegaaGreatDoor.zt, Pu, Fr] at h p f ⊢
    obtain ⟨vs, h1, h2⟩ := h
    exact ⟨vs, h1, ztL_fr hw hn hS hB ts vs p f h2⟩
  | .tup ts, u, p, f, h => by
    simp only [Dn, Go.Proofs.YtpgfhkbnngjegaaGreatDoor.zt, Pu, Fr] at h p f ⊢
    obtain ⟨vs, h1, h2⟩ := h
    exact ⟨vs, h1, ztL_fr hw hn hS hB ts vs p f h2⟩
  | .fn g ts, u, p, f, h => by
    have h1 := DnL.frz (C := C) (S := C'.Z j) (B := C'.B) hS hB [.fn g ts] [u] (by simp only [PuL]; exact ⟨p, trivial⟩) (by simp only [FrL]; exact ⟨f, trivial⟩) (DnL.cons h DnL.nil)
    simp only [Go.Proofs.YtpgfhkbnngjegaaGreatDoor.zt]
    simp only [Dn, hw]
    simp only [DnZL] at h1
    obtain ⟨u', us', e, h2, _⟩ := h1
    injection e with e
    subst e
    exact ⟨hn, h2⟩
  | .sl b els, u, p, f, h => by
    have h1 := DnL.frz (C := C) (S := C'.Z j) (B := C'.B) hS hB [.sl b els] [u] (by simp only [PuL]; exact ⟨p, trivial⟩) (by simp only [FrL]; exact ⟨f, trivial⟩) (DnL.cons h DnL.nil)
    simp only [Go.Proofs.YtpgfhkbnngjegaaGreatDoor.zt]
    simp only [Dn, hw]
    simp only [DnZL] at h1
    obtain ⟨u', us', e, h2, _⟩ := h1
    injection e with e
    subst e
    exact ⟨hn, h2⟩
  | .eptr _, u, _, f, _ => by simp only [Fr] at f
  | .ptr i off, u, p, _, _ => by simp only [Pu] at p
  | .row i, u, p, _, _ => by simp only [Pu] at p
  | .osl e sz els, u, p, _, _ => by simp only [Pu] at p
  | .z _ _, u, p, _, _ => by simp only [Pu] at p
  | .win _ _ _, u, p, _, _ => by simp only [Pu] at p
theorem ztL_fr (hw : C'.w = C.w) (hn : C'.pres j) (hS : ∀ k, C.S k → C.B ≤ k → k < C.w.heap.size → C'.Z j k) (hB : C'.B ≤ C.B) : ∀ (ts : List TV) (us : List Value), PuL ts → FrL ts → DnL C ts us → DnL C' (ztL j ts) us
  | [], us, _, _, h => by simp only [DnL, ztL] at h ⊢; exact h
  | t :: ts, us, p, f, h => by
    simp only [DnL, ztL, PuL, FrL] at h p f ⊢
    obtain ⟨u, us', h1, h2, h3⟩ := h
    exact ⟨u, us', h1, zt_fr hw hn hS hB t u p.1 f.1 h2, ztL_fr hw hn hS hB ts us' p.2 f.2 h3⟩
end
end
section
variable {P : Program} {B : Nat} {w0 : World} {T : Tab} {n : Nat} {e : Env} {h : List XLB} {gs : Frames} {K : XQ} {c : Code}
mutual
/-- Blocks that were taken together are read as others are. -/
def uzX (i : Nat) : XV → XV
  | .z j t h => match Nat.beq j i with
    | true => .p t h
    | false => .z j t h
  | .row j => match Nat.beq j i with
    | true => .any
    | false => .row j
  | .ptr j off => match Nat.beq j i with
    | true => .any
    | false => .ptr j off
  | .rp j k sz o => match Nat.beq j i with
    | true => .any
    | false => .rp j k sz o
  | .win j k sz => match Nat.beq j i with
    | true => .any
    | false => .win j k sz
  | .ag vs => .ag (uzXL i vs)
  | .tu vs => .tu (uzXL i vs)
  | .fu f vs => .fu f (uzXL i vs)
  | .p t h => .p t h
  | .any => .any
  | .ow _ _ _ _ => .any
  | .pin u t h => .pin u t h
def uzXL (i : Nat) : List XV → List XV
  | [] => []
  | v :: vs => uzX i v :: uzXL i vs
end
theorem nl_less {C C' : Cx} (hw : C'.w = C.w) (hB : C'.B = C.B) (hS : ∀ k, C.S k → C'.S k) (how : ∀ u e sz n xs, C'.ow u e sz n xs) : Keeps (C.less fun _ => false) C' := ⟨fun k h1 h2 => ⟨by rw [hw]; rfl, hS k h1, by rw [hw]; exact h2⟩, Nat.le_of_eq hB, fun j hj => by simp [Cx.less] at hj, fun _ _ _ _ _ _ => how _ _ _ _ _, fun j k hj _ _ => by simp [Cx.less] at hj⟩
mutual
theorem uz_dn {C C' : Cx} {i : Nat} (hw : C'.w = C.w) (hB : C'.B = C.B) (hS : ∀ k, C.S k → C'.S k) (how : ∀ u e sz n xs, C'.ow u e sz n xs) (hZi : ∀ k, C.Z i k → C'.S k) (hl : ∀ j, j ≠ i → C.pres j → C'.pres j ∧ C'.ρ j = C.ρ j) (hZ : ∀ j k, j ≠ i → C.pres j → C.Z j k → C'.Z j k) : ∀ (v : XV) (u : Value), Dn C v.den u → Dn C' (uzX i v).den u
  | .p t hp, u, h => by
    have := Dn.kp (fun _ => false) t u (show Dn C t u from h)
    rw [hp.k] at this
    exact Dn.keep (nl_less hw hB hS how) _ _ this
  | .any, u, _ => by simp [uzX, XV.den, Dn]
  | .ow _ _ _ _, u, _ => by simp [uzX, XV.den, Dn]
  | .pin x t hn, u, h => by simp only [uzX, XV.den, Dn] at h ⊢; exact h
  | .ag vs, u, h => by
    simp only [uzX, XV.den, Dn] at h ⊢
    obtain ⟨us, h1, h2⟩ := h
    exact ⟨us, h1, uzL_dn hw hB hS how hZi hl hZ vs us h2⟩
  | .tu vs, u, h => by
    simp only [uzX, XV.den, Dn] at h ⊢
    obtain ⟨us, h1, h2⟩ := h
    exact ⟨us, h1, uzL_dn hw hB hS how hZi hl hZ vs us h2⟩
  | .fu f vs, u, h => by
    simp only [uzX, XV.den, Dn] at h ⊢
    obtain ⟨us, h1, h2⟩ := h
    exact ⟨us, h1, uzL_dn hw hB hS how hZi hl hZ vs us h2⟩
  | .z j t hp, u, h => by
    simp only [uzX]
    simp only [XV.den, Dn] at h
    cases hb : Nat.beq j i with
    | true =>
      obtain rfl := Nat.eq_of_beq_eq_true hb
      simp only [XV.den]
      have h2 := h.2
      rw [← hw] at h2
      exact DnZ.dn (C := C') (fun k hk _ => hZi k hk) (Nat.le_of_eq hB) _ _ h2
    | false =>
      have hij := Nat.ne_of_beq_eq_false hb
      simp only [XV.den, Dn]
      refine ⟨(hl j hij h.1).1, DnZ.keep (fun k hk hlt => ⟨fun _ _ _ e1 => by rw [hw]; exact e1, hZ j k hij h.1 hk, by rw [hw]; exact hlt⟩) (Nat.le_of_eq hB) t u h.2⟩
  | .row j, u, h => by
    simp only [uzX]
    cases hb : Nat.beq j i with
    | true => simp [XV.den, Dn]
    | false =>
      have hij := Nat.ne_of_beq_eq_false hb
      simp only [XV.den, Dn] at h ⊢
      exact ⟨(hl j hij h.1).1, by rw [(hl j hij h.1).2]; exact h.2⟩
  | .ptr j off, u, h => by
    simp only [uzX]
    cases hb : Nat.beq j i with
    | true => simp [XV.den, Dn]
    | false =>
      have hij := Nat.ne_of_beq_eq_false hb
      simp only [XV.den, Dn] at h ⊢
      obtain ⟨h1, g, h2, h3⟩ := h
      exact ⟨(hl j hij h1).1, g, by rw [(hl j hij h1).2]; exact h2, h3⟩
  | .rp j k sz o, u, h => by
    simp only [uzX]
    cases hb : Nat.beq j i with
    | true => simp [XV.den, Dn]
    | false =>
      have hij := Nat.ne_of_beq_eq_false hb
      simp only [XV.den, Dn] at h ⊢
      obtain ⟨h1, g, h2, h3⟩ := h
      exact ⟨(hl j hij h1).1, g, by rw [(hl j hij h1).2]; exact h2, h3⟩
  | .win j k sz, u, h => by
    simp only [uzX]
    cases hb : Nat.beq j i with
    | true => simp [XV.den, Dn]
    | false =>
      have hij := Nat.ne_of_beq_eq_false hb
      simp only [XV.den, Dn] at h ⊢
      obtain ⟨h1, g, n, c, h2, h3⟩ := h
      exact ⟨(hl j hij h1).1, g, n, c, by rw [(hl j hij h1).2]; exact h2, h3⟩
theorem uzL_dn {C C' : Cx} {i : Nat} (hw : C'.w = C.w) (hB : C'.B = C.B) (hS : ∀ k, C.S k → C'.S k) (how : ∀ u e sz n xs, C'.ow u e sz n xs) (hZi : ∀ k, C.Z i k → C'.S k) (hl : ∀ j, j ≠ i → C.pres j → C'.pres j ∧ C'.ρ j = C.ρ j) (hZ : ∀ j k, j ≠ i → C.pres j → C.Z j k → C'.Z j k) : ∀ (vs : List XV) (us : List Value), DnL C (XV.denL vs) us → DnL C' (XV.denL (uzXL i vs)) us
  | [], us, h => by simp only [uzXL, XV.denL, DnL] at h ⊢; exact h
  | v :: vs, us, h => by
    simp only [uzXL, XV.denL, DnL] at h ⊢
    obtain ⟨u, us', h1, h2, h3⟩ := h
    exact ⟨u, us', h1, uz_dn hw hB hS how hZi hl hZ v u h2, uzL_dn hw hB hS how hZi hl hZ vs us' h3⟩
end
section
variable {P : Program} {B : Nat} {w0 : World} {T : Tab} {n : Nat} {e : Env} {h : List XLB} {gs : Frames} {K : XQ} {c : Code}
end
end
section
variable {P : Program} {B : Nat} {w0 : World} {n : Nat} {c : Code} {e : Env} {h : List XLB} {gs : Frames} {K : XQ}
end
section
variable {P : Program} {B : Nat} {w0 : World} {n : Nat} {c : Code} {e : Env} {h : List XLB} {gs : Frames} {K : XQ}
end
end Go.Proofs.YtpgfhkbnngjegaaGreatDoor

namespace Go.Proofs.YtpgfhkbnngjegaaGreatDoor
open Go.RowKit
set_option linter.unusedVariables false
set_option linter.unusedSimpArgs false
section
variable {P : Program} {B : Nat} {w0 : World} {T : Tab} {n : Nat} {c : Code} {e : Env} {h : List XLB} {gs : Frames} {K : XQ}
theorem hset_den {i : Nat} {b : XLB} (hb : b.den = (hget h i).den) : (h.set i b).map XLB.den = h.map XLB.den := by
  induction h generalizing i with
  | nil => rfl
  | cons x r ih =>
    cases i with
    | zero => simp only [List.set_cons_zero, List.map_cons]; rw [hb]; rfl
    | succ i => simp only [List.set_cons_succ, List.map_cons]; rw [ih (i := i) hb]
/-- One element of a row is held by its cells. -/
theorem XT.foc (i : Nat) {ty : TypeId} {sz : Nat} {els : List (List TV)} {hp : NlLL els} (pre : List (List TV)) (t : List TV) (post : List (List TV)) (hpr : NlLL pre) (ht : NlL t) (hpo : NlLL post) (hi : hget h i = .row ty sz els hp) (he : els = pre ++ t :: post)
    (hx : unpK t ht fun cs => setK h i (.rowF ty sz pre hpr cs post hpo) fun h' => XT P B w0 n c e h' gs K) : XT P B w0 n c e h gs K := ⟨fun gh Q hq => by
  have hx := setK_ok (k := fun h' => XT P B w0 n c e h' gs K) (unpK_ok (k := fun cs => setK h i (.rowF ty sz pre hpr cs post hpo) fun h' => XT P B w0 n c e h' gs K) hx)
  have h1 := hx.ok gh Q hq
  have e1 : xst n e (h.set i (.rowF ty sz pre hpr (unp t ht) post hpo)) gs = xst n e h gs := by
    simp only [xst]
    rw [hset_den (by rw [hi]; simp only [XLB.den, unp_den, he])]
  rwa [e1] at h1⟩
/-- A row is written no more. -/
theorem XT.freeze (j : Nat) (hx : frzK e h gs j fun e' h' gs' => XT P B w0 n c e' h' gs' K) : XT P B w0 n c e h gs K := ⟨fun gh Q hq => by
  obtain ⟨e', h', gs', hs, hx⟩ := frzK_ok (n := n) (B := B) (w0 := w0) hx
  exact TW.le (hx.ok gh Q hq) (hs gh)⟩
/-- A loop whose rounds may make blocks that stay. -/
theorem XT.loopN (O : TabOk P T) {Y : Type} (ds : List Nat) (us : Y → Env) (hs : Y → List (Nat × XLB)) (nb : Y → List XLB) (inv : Y → Prop) (μ : Y → Nat) (y0 : Y) (h0 : inv y0) (hle : LeX e h gs (us y0 ++ dropE ds e) (setsH h (hs y0) ++ nb y0) gs)
    (round : ∀ y, inv y → forceE (us y ++ dropE ds e) fun e' => forceH (setsH h (hs y) ++ nb y) fun h' => X P B w0 T n c e' h' gs fun ex e1 h1 g1 => match ex with
      | .normal => ∃ z, inv z ∧ μ z < μ y ∧ LeX e1 h1 g1 (us z ++ dropE ds e) (setsH h (hs z) ++ nb z) gs
      | ex => K ex e1 h1 g1) : XT P B w0 n (.loop c) e h gs K := ⟨fun gh Q hq => by
  refine TW.le (TW.loop (fun m σ => ∃ y, inv y ∧ μ y = m ∧ σ = xst n (us y ++ dropE ds e) (setsH h (hs y) ++ nb y) gs) (μ y0) ⟨y0, h0, rfl, rfl⟩ fun m σ ⟨y, h1, h2, h3⟩ => ?_) (hle.sle gh)
  subst h3
  refine (X_ok O (forceH_ok (k := fun h' => X P B w0 T n c (us y ++ dropE ds e) h' gs _) (forceE_ok (k := fun e' => forceH (setsH h (hs y) ++ nb y) fun h' => X P B w0 T n c e' h' gs _) (round y h1)))).ok gh _ fun ex e1 h1 g1 hk => ?_
  cases ex with
  | normal =>
    obtain ⟨z, h4, h5, h6⟩ := hk
    exact ⟨μ z, _, h2 ▸ h5, ⟨z, h4, rfl, rfl⟩, h6.sle gh⟩
  | _ => exact hq _ _ _ _ hk⟩
end
end Go.Proofs.YtpgfhkbnngjegaaGreatDoor

namespace Go.Proofs.YtpgfhkbnngjegaaGreatDoor
open Go.RowKit
set_option linter.unusedVariables false
set_option linter.unusedSimpArgs false

/-- A column. -/
structure Dfn where
  n : ByteArray
  t : Int
  k : Bool
  nn : Bool
/-- A table. -/
structure Tbl where
  n : ByteArray
  c : List Dfn
  r : List (List Val)
def vlC (v : Val) : List TV := [.v (.int .i64 v.k), .v (.int .i64 v.n), .v (.string v.t)]
def dfC (d : Dfn) : List TV := [.v (.string d.n), .v (.int .i64 d.t), .v (.bool d.k), .v (.bool d.nn)]
def rwC (b : Bool) (r : List Val) : List TV := [.sl b (r.map vlC)]
def tbC (b b2 b3 : Bool) (t : Tbl) : List TV := [.v (.string t.n), .sl b (t.c.map dfC), .sl b2 (t.r.map (rwC b3))]
def tbT (b b2 b3 : Bool) (t : Tbl) : TV := .agg (tbC b b2 b3 t)
def stT (b b1 b2 b3 : Bool) (s : List Tbl) : TV := .agg [.sl b (s.map (tbC b1 b2 b3))]
theorem nl_vl (l : List Val) : NlLL (l.map vlC) := .map fun x _ => .cons (nlv _) (.cons (nlv _) (.cons (nlv _) .nil))
theorem nl_dc (l : List Dfn) : NlLL (l.map dfC) := .map fun x _ => .cons (nlv _) (.cons (nlv _) (.cons (nlv _) (.cons (nlv _) .nil)))
theorem nl_rw (b : Bool) (l : List (List Val)) : NlLL (l.map (rwC b)) := .map fun x _ => .cons (nl_vl _).sl .nil
theorem nl_tb (b b2 b3 : Bool) (l : List Tbl) : NlLL (l.map (tbC b b2 b3)) := .map fun x _ => .cons (nlv _) (.cons (nl_dc _).sl (.cons (nl_rw _ _).sl .nil))
theorem nl_tb1 (b b2 b3 : Bool) (t : Tbl) : NlL (tbC b b2 b3 t) := .cons (nlv _) (.cons (nl_dc _).sl (.cons (nl_rw _ _).sl .nil))
theorem untag_vl (l : List Val) : untagLL (l.map vlC) = l.map vlC := by rw [untagLL_map]; rfl
theorem untag_dc (l : List Dfn) : untagLL (l.map dfC) = l.map dfC := by rw [untagLL_map]; rfl
theorem untag_rw (b : Bool) (l : List (List Val)) : untagLL (l.map (rwC b)) = l.map (rwC false) := by
  rw [untagLL_map]
  exact List.map_congr_left fun s _ => by simp only [rwC, untagL, untag, untag_vl]
theorem untag_tb (b b2 b3 : Bool) (l : List Tbl) : untagLL (l.map (tbC b b2 b3)) = l.map (tbC false false false) := by
  rw [untagLL_map]
  exact List.map_congr_left fun s _ => by simp only [tbC, untagL, untag, untag_dc, untag_rw]
theorem pu_vl (l : List Val) : PuLL (l.map vlC) := PuLL_map _ _ fun x _ => by simp [vlC, PuL, Pu]
theorem pu_dc (l : List Dfn) : PuLL (l.map dfC) := PuLL_map _ _ fun x _ => by simp [dfC, PuL, Pu]
theorem pu_rw (b : Bool) (l : List (List Val)) : PuLL (l.map (rwC b)) := PuLL_map _ _ fun s _ => by simp [rwC, PuL, Pu, pu_vl]
theorem pu_tb (b b2 b3 : Bool) (l : List Tbl) : PuLL (l.map (tbC b b2 b3)) := PuLL_map _ _ fun s _ => by simp [tbC, PuL, Pu, pu_dc, pu_rw]
theorem fr_vl (l : List Val) : FrLL (l.map vlC) := FrLL_map _ _ fun x _ => by simp [vlC, FrL, Fr]
theorem fr_dc (l : List Dfn) : FrLL (l.map dfC) := FrLL_map _ _ fun x _ => by simp [dfC, FrL, Fr]
theorem fr_rw (l : List (List Val)) : FrLL (l.map (rwC true)) := FrLL_map _ _ fun s _ => by simp [rwC, FrL, Fr, fr_vl]
theorem fr_tb (l : List Tbl) : FrLL (l.map (tbC true true true)) := FrLL_map _ _ fun s _ => by simp [tbC, FrL, Fr, fr_dc, fr_rw]
theorem vl_len (l : List Val) : ∀ x ∈ l.map vlC, x.length = 3 := fun x hx => by obtain ⟨s, _, rfl⟩ := List.mem_map.1 hx; rfl
theorem vl_one (l : List Val) : ∀ x ∈ l.map vlC, x.all TV.one = true := fun x hx => by obtain ⟨s, _, rfl⟩ := List.mem_map.1 hx; rfl
theorem dc_len (l : List Dfn) : ∀ x ∈ l.map dfC, x.length = 4 := fun x hx => by obtain ⟨s, _, rfl⟩ := List.mem_map.1 hx; rfl
theorem dc_one (l : List Dfn) : ∀ x ∈ l.map dfC, x.all TV.one = true := fun x hx => by obtain ⟨s, _, rfl⟩ := List.mem_map.1 hx; rfl
theorem rw_len (b : Bool) (l : List (List Val)) : ∀ x ∈ l.map (rwC b), x.length = 1 := fun x hx => by obtain ⟨s, _, rfl⟩ := List.mem_map.1 hx; rfl
theorem rw_one (b : Bool) (l : List (List Val)) : ∀ x ∈ l.map (rwC b), x.all TV.one = true := fun x hx => by obtain ⟨s, _, rfl⟩ := List.mem_map.1 hx; rfl
theorem tb_len (b b2 b3 : Bool) (l : List Tbl) : ∀ x ∈ l.map (tbC b b2 b3), x.length = 3 := fun x hx => by obtain ⟨s, _, rfl⟩ := List.mem_map.1 hx; rfl
theorem tb_one (b b2 b3 : Bool) (l : List Tbl) : ∀ x ∈ l.map (tbC b b2 b3), x.all TV.one = true := fun x hx => by obtain ⟨s, _, rfl⟩ := List.mem_map.1 hx; rfl
/-- What comes in. -/
structure Dfn.In (d : Dfn) : Prop where
  n : d.n.size ≤ 140737488355328
  t : I64 d.t
structure Tbl.In (t : Tbl) : Prop where
  n : t.n.size ≤ 140737488355328
  c : ∀ d ∈ t.c, d.In
  cn : t.c.length ≤ 100000
  r : ∀ r ∈ t.r, r.length ≤ 100000 ∧ ∀ v ∈ r, v.Ok
  rn : t.r.length ≤ 100000
/-- The first of its kind. -/
def ixP {α : Type} (p : α → Bool) (l : List α) : Int := match l.findIdx? p with
  | some i => (i : Int)
  | none => -1
def noP {α : Type} (p : α → Bool) (l : List α) (k : Nat) : Prop := ∀ (j : Nat) (x : α), j < k → l[j]? = some x → p x = false
section
variable {α : Type} {p : α → Bool} {l : List α} {k : Nat} {x : α}
theorem noP_0 : noP p l 0 := fun j x hj => by omega
theorem noP_s (h : noP p l k) (hx : l[k]? = some x) (hp : p x = false) : noP p l (k + 1) := fun j y hj hy => by
  rcases Nat.lt_or_ge j k with h1 | h1
  · exact h j y h1 hy
  · obtain rfl : j = k := by omega
    rw [hx] at hy
    injection hy with hy
    rw [← hy]; exact hp
theorem ixP_t (h : noP p l k) (hx : l[k]? = some x) (hp : p x = true) : ixP p l = (k : Int) := by
  unfold ixP
  obtain ⟨hk, rfl⟩ := List.getElem?_eq_some_iff.1 hx
  have : l.findIdx? p = some k := List.findIdx?_eq_some_iff_getElem.2 ⟨hk, hp, fun j hj => by
    have := h j _ hj (List.getElem?_eq_getElem (by omega))
    simp [this]⟩
  rw [this]
theorem ixP_f (h : noP p l k) (hk : l.length ≤ k) : ixP p l = -1 := by
  unfold ixP
  have : l.findIdx? p = none := List.findIdx?_eq_none_iff.2 fun x hx => by
    obtain ⟨j, hj, rfl⟩ := List.getElem_of_mem hx
    exact h j _ (by omega) (List.getElem?_eq_getElem hj)
  rw [this]
theorem ixP_ge (p : α → Bool) (l : List α) : -1 ≤ ixP p l ∧ ixP p l < l.length := by
  unfold ixP
  cases h : l.findIdx? p with
  | none => simp; omega
  | some i =>
    obtain ⟨hi, _⟩ := List.findIdx?_eq_some_iff_getElem.1 h
    simp
    omega
end
def keyI (c : List Dfn) : Int := ixP (fun d => d.k) c
end Go.Proofs.YtpgfhkbnngjegaaGreatDoor
