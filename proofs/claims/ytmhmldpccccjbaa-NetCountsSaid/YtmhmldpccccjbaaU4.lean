/- What a function makes, and loops, by propositions that are reckoned. Condition: what the program's table says of types. -/
import Derived.Test.YtmhmldpccccjbaaU3
namespace Go.Proofs.Ytmhmldpccccjbaa
open Go.RowKit
set_option linter.unusedVariables false
set_option linter.unusedSimpArgs false

section
variable {P : Program} {B : Nat} {w0 : World} {T : Tab} {n : Nat} {e : Env} {h : List XLB} {gs : Frames} {K : XQ} {c : Code}

mutual
def lowX (m : Nat) : XV → XV
  | .p t h => .p t h
  | .any => .any
  | .row j => match Nat.blt j m with
    | true => .row j
    | false => .any
  | .ptr j off => match Nat.blt j m with
    | true => .ptr j off
    | false => .any
  | .rp j k sz o => match Nat.blt j m with
    | true => .rp j k sz o
    | false => .any
  | .ag vs => .ag (lowXL m vs)
  | .tu vs => .tu (lowXL m vs)
  | .fu f vs => .fu f (lowXL m vs)
  | .ow e sz els h => .ow e sz els h
  | .pin u t h => .pin u t h
  | .z j t h => match Nat.blt j m with
    | true => .z j t h
    | false => .any
  | .win j k sz => match Nat.blt j m with
    | true => .win j k sz
    | false => .any
def lowXL (m : Nat) : List XV → List XV
  | [] => []
  | v :: vs => lowX m v :: lowXL m vs
end
theorem low_blt (m j : Nat) : low m j = Nat.blt j m := by
  unfold low
  cases hb : Nat.blt j m with
  | true => have := Nat.blt_eq.mp hb; simp [this]
  | false =>
    have : ¬ j < m := fun h => by have := Nat.blt_eq.mpr h; rw [hb] at this; cases this
    exact decide_eq_false this
mutual
theorem lowX_den (m : Nat) : ∀ v : XV, (lowX m v).den = kp (low m) v.den
  | .p t h => (h.k _).symm
  | .any => rfl
  | .row j => by
    simp only [lowX, XV.den, kp, low_blt]
    cases Nat.blt j m <;> rfl
  | .ptr j off => by
    simp only [lowX, XV.den, kp, low_blt]
    cases Nat.blt j m <;> rfl
  | .rp j k sz o => by
    simp only [lowX, XV.den, kp, low_blt]
    cases Nat.blt j m <;> rfl
  | .ag vs => by simp only [lowX, XV.den, kp, lowXL_den m vs]
  | .tu vs => by simp only [lowX, XV.den, kp, lowXL_den m vs]
  | .fu f vs => by simp only [lowX, XV.den, kp, lowXL_den m vs]
  | .ow e sz els h => by simp only [lowX, XV.den, kp, h.k]
  | .pin u t h => rfl
  | .z j t h => by
    simp only [lowX, XV.den, kp, low_blt]
    cases Nat.blt j m <;> rfl
  | .win j k sz => by
    simp only [lowX, XV.den, kp, low_blt]
    cases Nat.blt j m <;> rfl
theorem lowXL_den (m : Nat) : ∀ vs : List XV, XV.denL (lowXL m vs) = kpL (low m) (XV.denL vs)
  | [] => rfl
  | v :: vs => by simp only [lowXL, XV.denL, kpL, lowX_den m v, lowXL_den m vs]
end
/-- What a value says at least. -/
structure LeV (a b : XV) : Prop where
  le : LeT a.den b.den
theorem LeV.rfl {a : XV} : LeV a a := ⟨.inr (.inl (Eq.refl _))⟩
theorem LeV.of {a b : XV} (h : a.den = b.den) : LeV a b := ⟨.inr (.inl h)⟩
theorem LeV.any {a : XV} : LeV a .any := ⟨.inl (Eq.refl _)⟩
theorem LeV.nil {hp : Nl .nil_} {b : Bool} {hq : Nl (.sl b [])} : LeV (.p .nil_ hp) (.p (.sl b []) hq) := ⟨.inr (.inr ⟨Eq.refl _, b, Eq.refl _⟩)⟩
theorem LeV.val {x y : Value} {hp : Nl (.v x)} {hq : Nl (.v y)} (h : x = y) : LeV (.p (.v x) hp) (.p (.v y) hq) := .of (by simp only [XV.den, h])
theorem LeV.int {k : IntKind} {x y : Int} {hp : Nl (.v (.int k x))} {hq : Nl (.v (.int k y))} (h : x = y) : LeV (.p (.v (.int k x)) hp) (.p (.v (.int k y)) hq) := .val (by rw [h])
theorem LeV.tv {x y : TV} {hp : Nl x} {hq : Nl y} (h : x = y) : LeV (.p x hp) (.p y hq) := .of h
def LeEnv (m : Nat) (e : Env) : Env → Prop
  | [] => True
  | x :: r => LeV (lowX m (look e x.1)) x.2 ∧ LeEnv m e r
theorem LeEnv.look {m : Nat} {e : Env} : ∀ {e' : Env}, LeEnv m e e' → ∀ d, LeT (kp (low m) (look e d).den) (look e' d).den
  | [], _, d => .inl rfl
  | x :: r, hh, d => by
    simp only [LeEnv] at hh
    by_cases hd : x.1 = d
    · have e1 : Go.Proofs.Ytmhmldpccccjbaa.look (x :: r) d = x.2 := by
        have := look_same r x.1 x.2
        rw [← hd]; exact this
      rw [e1, ← lowX_den, ← hd]
      exact hh.1.le
    · have e1 : Go.Proofs.Ytmhmldpccccjbaa.look (x :: r) d = Go.Proofs.Ytmhmldpccccjbaa.look r d := look_ne r x.2 hd
      rw [e1]
      exact LeEnv.look hh.2 d
theorem leL_of : ∀ {l l' : List TV}, l.length = l'.length → (∀ (i : Nat) (t t' : TV), l[i]? = some t → l'[i]? = some t' → LeT t t') → LeL l l'
  | [], l', hl, _ => List.eq_nil_of_length_eq_zero hl.symm
  | t :: ts, [], hl, _ => by simp at hl
  | t :: ts, t' :: ts', hl, hh => ⟨t', ts', rfl, hh 0 t t' rfl rfl, leL_of (by simpa using hl) fun i a b ha hb => hh (i + 1) a b (by simpa using ha) (by simpa using hb)⟩
theorem LeEnv.leL {m : Nat} {e e' : Env} (hh : LeEnv m e e') (n : Nat) : LeL (kpL (low m) (toL n e)) (toL n e') := by
  rw [kpL_map]
  refine leL_of (by simp [toL]) fun i t t' h1 h2 => ?_
  simp only [toL, List.map_map, List.getElem?_map] at h1 h2
  cases hr : (List.range n)[i]? with
  | none => rw [hr] at h1; cases h1
  | some j =>
    rw [hr] at h1 h2
    simp only [Option.map_some, Option.some.injEq, Function.comp] at h1 h2
    subst h1 h2
    exact LeEnv.look hh j
def LeFr (m : Nat) : Frames → Frames → Prop
  | [], gs' => gs' = []
  | f :: r, gs' => ∃ f' r', gs' = f' :: r' ∧ f.1 = f'.1 ∧ LeEnv m f.2 f'.2 ∧ LeFr m r r'
theorem LeL.append : ∀ {a b a' b' : List TV}, LeL a a' → LeL b b' → LeL (a ++ b) (a' ++ b')
  | [], b, a', b', h, h2 => by simp only [LeL] at h; subst h; exact h2
  | t :: ts, b, a', b', h, h2 => by
    simp only [LeL] at h
    obtain ⟨u, us, rfl, h3, h4⟩ := h
    exact ⟨u, us ++ b', rfl, h3, LeL.append h4 h2⟩
theorem LeFr.leL {m : Nat} : ∀ {gs gs' : Frames}, LeFr m gs gs' → LeL (kpL (low m) (denG gs)) (denG gs')
  | [], gs', h => by simp only [LeFr] at h; subst h; rfl
  | f :: r, gs', h => by
    simp only [LeFr] at h
    obtain ⟨f', r', rfl, h1, h2, h3⟩ := h
    have := (h2.leL f.1).append h3.leL
    simp only [denG, kpL_map, List.map_append] at this ⊢
    rw [← h1]
    exact this
def LeVs (m : Nat) : List XV → List XV → Prop
  | [], l => l = []
  | v :: vs, l => ∃ u us, l = u :: us ∧ LeV (lowX m v) u ∧ LeVs m vs us
theorem LeVs.leL {m : Nat} : ∀ {a b : List XV}, LeVs m a b → LeL (kpL (low m) (XV.denL a)) (XV.denL b)
  | [], b, h => by simp only [LeVs] at h; subst h; rfl
  | v :: vs, b, h => by
    simp only [LeVs] at h
    obtain ⟨u, us, rfl, h1, h2⟩ := h
    exact ⟨u.den, _, rfl, by rw [← lowX_den]; exact h1.le, h2.leL⟩
theorem LeVs.nil {m : Nat} : LeVs m [] [] := rfl
theorem LeFr.nil {m : Nat} : LeFr m [] [] := rfl
inductive LeBk (m : Nat) : XLB → XLB → Prop
  | none : LeBk m .none .none
  | cells {t : TypeId} {cs cs' : List XV} (h : LeVs m cs cs') : LeBk m (.cells t cs) (.cells t cs')
  | row {e : TypeId} {sz : Nat} {els els' : List (List TV)} {hp : NlLL els} {hq : NlLL els'} (h : els = els') : LeBk m (.row e sz els hp) (.row e sz els' hq)
  | ext {x : Ext} : LeBk m (.ext x) (.ext x)
def LeHp (m : Nat) : List XLB → List XLB → Prop
  | _, [] => True
  | [], _ :: _ => False
  | b :: bs, c :: cs => LeBk m b c ∧ LeHp m bs cs
theorem LeHp.leB {m : Nat} : ∀ {h h' : List XLB}, LeHp m h h' → LeB (((h.map XLB.den).take h'.length).map (LB.kp (low m))) (h'.map XLB.den)
  | h, [], _ => by simp [LeB]
  | [], _ :: _, hh => hh.elim
  | b :: bs, c :: cs, hh => by
    obtain ⟨h1, h2⟩ := hh
    refine ⟨c.den, cs.map XLB.den, rfl, ?_, h2.leB⟩
    cases h1 with
    | none => exact .inl rfl
    | ext => exact .inl rfl
    | cells h => exact .inr ⟨_, _, _, rfl, rfl, h.leL⟩
    | row h => subst h; refine .inl ?_; rename_i hp _; simp only [XLB.den, LB.kp, hp.k]
/-- What a state says at least. -/
structure LeX (e : Env) (h : List XLB) (gs : Frames) (e' : Env) (h' : List XLB) (gs' : Frames) : Prop where
  e : LeEnv h'.length e e'
  h : LeHp h'.length h h'
  g : LeFr h'.length gs gs'
theorem LeX.sle {e' : Env} {h' : List XLB} {gs' : Frames} (hh : LeX e h gs e' h' gs') (gh : List Value) : SLe B w0 gh (xst n e h gs) (xst n e' h' gs') :=
  SLe.back (σ := xst n e h gs) h'.length (hh.e.leL n) hh.h.leB hh.g.leL
theorem XT.weak {e' : Env} {h' : List XLB} {gs' : Frames} (hl : LeX e h gs e' h' gs') (hx : XT P B w0 n c e' h' gs' K) : XT P B w0 n c e h gs K := ⟨fun gh Q hq => (hx.ok gh Q hq).le (hl.sle gh)⟩
theorem XT.of (O : TabOk P T) (hx : X P B w0 T n c e h gs K) : XT P B w0 n c e h gs K := X_ok O hx
/-- What is known of the slots but of some. -/
def memN (d : Nat) : List Nat → Bool
  | [] => false
  | x :: r => match Nat.beq x d with
    | true => true
    | false => memN d r
def dropE : List Nat → Env → Env
  | _, [] => []
  | ds, x :: r => match memN x.1 ds with
    | true => dropE ds r
    | false => x :: dropE (x.1 :: ds) r
def setsH (h : List XLB) : List (Nat × XLB) → List XLB
  | [] => h
  | x :: r => setsH (h.set x.1 x.2) r
/-- A loop: its rounds' states are that at its head with some slots and blocks told anew. -/
theorem XT.loop (O : TabOk P T) {Y : Type} (ds : List Nat) (us : Y → Env) (hs : Y → List (Nat × XLB)) (inv : Y → Prop) (μ : Y → Nat) (y0 : Y) (h0 : inv y0) (hle : LeX e h gs (us y0 ++ dropE ds e) (setsH h (hs y0)) gs)
    (round : ∀ y, inv y → forceE (us y ++ dropE ds e) fun e' => forceH (setsH h (hs y)) fun h' => X P B w0 T n c e' h' gs fun ex e1 h1 g1 => match ex with
      | .normal => ∃ z, inv z ∧ μ z < μ y ∧ LeX e1 h1 g1 (us z ++ dropE ds e) (setsH h (hs z)) gs
      | ex => K ex e1 h1 g1) : XT P B w0 n (.loop c) e h gs K := ⟨fun gh Q hq => by
  refine TW.le (TW.loop (fun m σ => ∃ y, inv y ∧ μ y = m ∧ σ = xst n (us y ++ dropE ds e) (setsH h (hs y)) gs) (μ y0) ⟨y0, h0, rfl, rfl⟩ fun m σ ⟨y, h1, h2, h3⟩ => ?_) (hle.sle gh)
  subst h3
  have := forceH_ok (k := fun h' => X P B w0 T n c _ h' gs _) (forceE_ok (k := fun e' => forceH (setsH h (hs y)) fun h' => X P B w0 T n c e' h' gs _) (round y h1))
  refine (X_ok O this).ok gh _ fun ex e1 h1 g1 hk => ?_
  cases ex with
  | normal =>
    obtain ⟨z, hz1, hz2, hz3⟩ := hk
    exact ⟨μ z, _, by omega, ⟨z, hz1, rfl, rfl⟩, hz3.sle gh⟩
  | _ => exact hq _ _ _ _ hk⟩
/-- A nil slice in a slot becomes a row. -/
theorem XT.nilr (d : Nat) (ty : TypeId) (sz : Nat) {hp : Nl .nil_} (hd : look e d = .p .nil_ hp) (hn : Nat.blt d n = true) (hx : XT P B w0 n c ((d, .row h.length) :: e) (h ++ [.row ty sz [] .nil]) gs K) : XT P B w0 n c e h gs K := ⟨fun gh Q hq => by
  have hdn := Nat.blt_eq.mp hn
  refine TW.le (hx.ok gh Q hq) ?_
  have := SLe.nilrow (B := B) (w0 := w0) (gh := gh) (σ := xst n e h gs) (k := d) ty sz (by simp only [xst, toL_get? e hdn, hd]; rfl)
  simp only [xst, toL_set e _ hdn, List.map_append, List.length_map] at this ⊢
  exact this⟩

/-- What a function hands out. -/
inductive FinG (h : List XLB) (v : XV) (r : TV) : Prop
  | mk (q : Option Nat) (ho : Out (h.map XLB.den) q v.den r) (hq : ∀ i, q = some i → (hf (h.map XLB.den) i).here) : FinG h v r
def finQ (T : Tab) (n : Nat) (rs : List ResultVar) (r : TV) : XQ := fun ex e h _ => match ex with
  | .normal => resX T n e h rs fun v => FinG h v r
  | .ret => resX T n e h rs fun v => FinG h v r
  | _ => False
theorem XMeets.of_X (O : TabOk P T) {f : FuncId} {fn : Func} {c : Code} {args : List TV} {avs : List XV} {r : XV} (e0 : Env) (hE : entB P f = true) (hfn : P.funcs[f]? = some fn) (hb : fn.body = some c) (hp : PuL args) (hu : untagL args = XV.denL avs) (he : envA avs 0 = e0) (hle : Nat.ble avs.length fn.ntmps = true)
    (hx : ∀ B w0, X P B w0 T fn.ntmps c e0 [] [] (finQ T fn.ntmps fn.results.toList r.den)) : XMeets P f args r := ⟨hE, TMeets.of_TW hfn hb hp fun B w0 => by
  have hle := Nat.le_of_ble_eq_true hle
  have hl : args.length = (XV.denL avs).length := by rw [← hu]; exact (untagL_len args).symm
  rw [hu, hl, ← toL_envA hle, he]
  refine (X_ok O (hx B w0)).ok [] _ fun ex e h gs hk => ?_
  have fin : ∀ {ex : Exit}, (ex = .normal ∨ ex = .ret) → (resX T fn.ntmps e h fn.results.toList fun v => FinG h v r.den) → endT P fn r.den ex (xst fn.ntmps e h gs) := fun hex hk => by
    obtain ⟨v, hv, q, ho, hq⟩ := resX_ok O (g := denG gs) hk
    exact ⟨hex, v.den, q, hv, ho, hq⟩
  cases ex with
  | normal => exact fin (.inl rfl) hk
  | ret => exact fin (.inr rfl) hk
  | _ => exact hk.elim⟩
where
  untagL_len : ∀ ts : List TV, (untagL ts).length = ts.length
    | [] => rfl
    | t :: ts => by simp [untagL, untagL_len ts]
theorem XMeets.eq {f : FuncId} {args : List TV} {r r' : XV} (hm : XMeets P f args r) (hr : r = r') : XMeets P f args r' := hr ▸ hm
/-- A result's owned row as one that is only read. -/
theorem TMeets.shared {f : FuncId} {args : List TV} {ty : TypeId} {sz : Nat} {els : List (List TV)} (hfr : FrLL els) (hm : TMeets P f args (.osl ty sz els)) : TMeets P f args (.sl true els) := fun C vals hg hd =>
  (hm C vals hg hd).mono fun e w' ⟨u, ov, h1, h2, h3, h4⟩ => by
    refine ⟨u, .nilFunc, h1, h2, fun g hg => (by cases hg), ?_⟩
    simp only [Dn] at h4
    obtain ⟨A, c, css, rfl, ⟨h5, h6⟩, h7, h8⟩ := h4
    have h9 : DnLL (rsCx C.w.heap.size w' .nilFunc) els css := DnLL.fr (C := rsCx C.w.heap.size w' ov) (C' := rsCx C.w.heap.size w' .nilFunc) rfl (Nat.le_refl _) (fun k hk _ _ => ⟨hk.1, fun h => by cases h⟩) _ _ hfr h8
    refine row_sl (base := C.w.heap.size) h6 h7 h9 (fun ad ha => ⟨?_, fun h => by cases h⟩) (fun _ => Nat.le_refl _)
    refine (h3 ad.block ?_).1
    rw [← h5, ha]
    rfl
theorem XMeets.shared {f : FuncId} {args : List TV} {ty : TypeId} {sz : Nat} {els : List (List TV)} {hp : NlLL els} (hfr : FrLL els) (hm : XMeets P f args (.ow ty sz els hp)) : XMeets P f args (.p (.sl true els) hp.sl) := ⟨hm.1, hm.2.shared hfr⟩
end
end Go.Proofs.Ytmhmldpccccjbaa
