/- Code over trees: control, stores, what a function begins and ends with. Condition: what the program's table says of types. -/
import Derived.Test.YtpgfhkbnngjegaaGreatDoorT5
import Derived.Scope
import Derived.ScopeJumps
namespace Go.Proofs.YtpgfhkbnngjegaaGreatDoor
open Go.RowKit
set_option linter.unusedVariables false
set_option linter.unusedSimpArgs false
def liftQ (B : Nat) (w0 : World) (gh : List Value) (Q : Exit→St→Prop) : Exit→Act→World→Prop:=fun e a w=>∃ σ ρ,Q e σ∧RelS B w0 gh ρ σ a w
def TW (P : Program) (B : Nat) (w0 : World) (gh : List Value) (c : Code) (σ : St) (Q : Exit→St→Prop) : Prop:=∀ ρ a w,RelS B w0 gh ρ σ a w→c.wp P (liftQ B w0 gh Q) a w
def TL (P : Program) (B : Nat) (w0 : World) (gh : List Value) (ops : Array Oper) (l : List Oper) (σ : St) (Q : Exit→St→Prop) : Prop:=∀ ρ a w,RelS B w0 gh ρ σ a w→wpList P ops (liftQ B w0 gh Q) l a w
def thenT (next : St→Prop) (Q : Exit→St→Prop) : Exit→St→Prop
  | .normal,σ=>next σ
  | e,σ=>Q e σ
def inBlockT (id : Nat) (Q : Exit→St→Prop) : Exit→St→Prop
  | .exit id',σ=>if id' = id then Q .normal σ else Q (.exit id') σ
  | e,σ=>Q e σ
def noGotoT (Q : Exit→St→Prop) : Exit→St→Prop
  | .goto _,_=>False
  | e,σ=>Q e σ
def SLe (B : Nat) (w0 : World) (gh : List Value) (σ σ' : St) : Prop:=∀ ρ a w,RelS B w0 gh ρ σ a w→∃ ρ',RelS B w0 gh ρ' σ' a w
section
variable {P : Program} {B : Nat} {w0 : World} {gh : List Value} {Q : Exit→St→Prop} {σ : St} {ops : Array Oper} {o : Oper} {rest : List Oper}
theorem lift_then {next : St→Prop} {e : Exit} {a : Act} {w : World} (h : liftQ B w0 gh (thenT next Q) e a w) : Exit.then (fun a w=>∃ σ ρ,next σ∧RelS B w0 gh ρ σ a w) (liftQ B w0 gh Q) e a w:=by
  obtain ⟨σ,ρ,h1,h2⟩:=h
  cases e <;> exact ⟨σ,ρ,h1,h2⟩
theorem TW.le {c : Code} {σ' : St} (h : TW P B w0 gh c σ' Q) (hl : SLe B w0 gh σ σ') : TW P B w0 gh c σ Q:=fun ρ a w hr=>by
  obtain ⟨ρ',h'⟩:=hl ρ a w hr
  exact h ρ' a w h'
theorem TW.seq {x y : Code} (h : TW P B w0 gh x σ (thenT (fun σ=>TW P B w0 gh y σ Q) Q)) : TW P B w0 gh (.seq x y) σ Q:=fun ρ a w hr=>
  wp_seq (wp_mono (h ρ a w hr) fun e a w hh=>by
    have:=lift_then hh
    cases e <;> first | exact this | (obtain ⟨σ',ρ',h1,h2⟩:=this; exact h1 ρ' _ _ h2))
theorem TW.skip (h : Q .normal σ) : TW P B w0 gh .skip σ Q:=fun ρ a w hr=>wp_skip ⟨σ,ρ,h,hr⟩
theorem TW.label {l : Nat} (h : Q .normal σ) : TW P B w0 gh (.label l) σ Q:=fun ρ a w hr=>wp_label ⟨σ,ρ,h,hr⟩
theorem TW.exit {id : Nat} (h : Q (.exit id) σ) : TW P B w0 gh (.exit id) σ Q:=fun ρ a w hr=>wp_exit ⟨σ,ρ,h,hr⟩
theorem TW.goto {l : Nat} (h : Q (.goto l) σ) : TW P B w0 gh (.goto l) σ Q:=fun ρ a w hr=>wp_goto ⟨σ,ρ,h,hr⟩
theorem TW.ret (h : Q .ret σ) : TW P B w0 gh .ret σ Q:=fun ρ a w hr=>wp_ret ⟨σ,ρ,h,hr⟩
theorem TW.cond {c : Operand} {x y : Code} {b : Bool} (hc : tev σ.s c = .v (.bool b)) (ht : b = true→TW P B w0 gh x σ Q) (hf : b = false→TW P B w0 gh y σ Q) : TW P B w0 gh (.cond c x y) σ Q:=fun ρ a w hr=>by
  have h1:=tev_dn hr.slots c
  rw [hc] at h1
  simp only [Dn] at h1
  exact wp_cond_split h1 (fun hb=>ht hb ρ a w hr) (fun hb=>hf hb ρ a w hr)
theorem TW.block {id : Nat} {c : Code} (h : TW P B w0 gh c σ (inBlockT id Q)) : TW P B w0 gh (.block id c) σ Q:=fun ρ a w hr=>
  wp_block (wp_mono (h ρ a w hr) fun e a w ⟨σ,ρ,h1,h2⟩=>by
    cases e <;> simp only [inBlockT,Exit.inBlock] at h1 ⊢ <;> first | exact ⟨σ,ρ,h1,h2⟩ | (split at h1 <;> (rename_i hh; simp only [hh,if_true,if_false] ; exact ⟨σ,ρ,h1,h2⟩)))
theorem TW.scope {c : Code} (h : TW P B w0 gh c σ (noGotoT Q)) : TW P B w0 gh (.scope c) σ Q:=fun ρ a w hr=>
  wp_scope_straight (wp_mono (h ρ a w hr) fun e a w ⟨σ,ρ,h1,h2⟩=>by
    cases e <;> simp only [noGotoT,Exit.noGoto] at h1 ⊢ <;> first | exact ⟨σ,ρ,h1,h2⟩ | exact h1)
theorem TW.region {id : Nat} (h : TL P B w0 gh ops ops.toList σ Q) : TW P B w0 gh (.region id ops false) σ Q:=fun ρ a w hr=>wp_region_list (h ρ a w hr)
theorem TW.loop {c : Code} (J : Nat→St→Prop) (n0 : Nat) (h0 : J n0 σ) (round : ∀ n σ,J n σ→TW P B w0 gh c σ (thenT (fun σ'=>∃ m σ'',m < n∧J m σ''∧SLe B w0 gh σ' σ'') Q)) : TW P B w0 gh (.loop c) σ Q:=fun ρ a w hr=>by
  let I : Act→World→Nat→Prop:=fun a w n=>∃ σ ρ,J n σ∧RelS B w0 gh ρ σ a w
  have hmin : ∀ a w,(∃ n,I a w n)→∃ n,I a w n∧∀ m,I a w m→n ≤ m:=fun a w ⟨n,hn⟩=>by
    induction n using Nat.strongRecOn with
    | _ n ih=>
      by_cases hall : ∀ m,I a w m→n ≤ m
      · exact ⟨n,hn,hall⟩
      · simp only [Classical.not_forall] at hall
        obtain ⟨m,hm,hlt⟩:=hall
        exact ih m (by omega) hm
  classical
  let μ : Act→World→Nat:=fun a w=>if h : ∃ n,I a w n then Classical.choose (hmin a w h) else 0
  have hμ : ∀ a w (h : ∃ n,I a w n),I a w (μ a w)∧∀ m,I a w m→μ a w ≤ m:=fun a w h=>by
    have:=Classical.choose_spec (hmin a w h)
    simp only [μ,dif_pos h]
    exact this
  refine wp_loop (fun a w=>∃ n,I a w n) μ ⟨n0,σ,ρ,h0,hr⟩ fun a w hI=>?_
  obtain ⟨h1,h2⟩:=hμ a w hI
  obtain ⟨σ1,ρ1,h3,h4⟩:=h1
  refine wp_mono (round _ σ1 h3 ρ1 a w h4) fun e a' w' hh=>?_
  have:=lift_then hh
  cases e <;> first
    | exact this
    | (obtain ⟨σ',ρ',⟨m,σ'',h5,h6,h7⟩,h8⟩:=this
       obtain ⟨ρ'',h9⟩:=h7 ρ' _ _ h8
       have hIm : I a' w' m:=⟨σ'',ρ'',h6,h9⟩
       exact ⟨⟨m,hIm⟩,by have:=(hμ a' w' ⟨m,hIm⟩).2 m hIm; omega⟩)
theorem TL.nil (h : Q .normal σ) : TL P B w0 gh ops [] σ Q:=fun ρ a w hr=>⟨σ,ρ,h,hr⟩
def St.put (σ : St) (dst : Option Tmp) (t : TV) : St:=⟨match dst with | some d=>σ.s.set d t | none=>σ.s,σ.h,σ.g⟩
def St.step (σ : St) (dst : Option Tmp) (t : TV) (new : Option LB) : St:=⟨match dst with | some d=>σ.s.set d t | none=>σ.s,match new with | none=>σ.h | some b=>σ.h ++ [b],σ.g⟩
theorem put_dn {C : Cx} {s : List TV} {a : Act} {dst : Option Tmp} {t : TV} {u : Value} (h : DnL C s a.tmps.toList) (hu : Dn C t u) : DnL C (match dst with | some d=>s.set d t | none=>s) (a.put dst u).tmps.toList:=by
  cases dst with
  | none=>exact h
  | some d=>
    simp only [Act.put,Array.toList_setIfInBounds]
    exact h.set d hu
theorem hf_app (h : List LB) (b : LB) : hf (h ++ [b]) = updf (hf h) h.length b:=by
  funext i
  unfold hf updf
  by_cases hi : i = h.length
  · subst hi; simp [List.getD]
  · rw [if_neg hi]
    rcases Nat.lt_or_ge i h.length with h1 | h1
    · simp [List.getD,List.getElem?_append_left h1]
    · have : h.length + 1 ≤ i:=by omega
      simp [List.getD,List.getElem?_eq_none (show (h ++ [b]).length ≤ i by simp; omega),List.getElem?_eq_none h1]
theorem hf_set {h : List LB} {i : Nat} (hi : i < h.length) (b : LB) : hf (h.set i b) = updf (hf h) i b:=by
  funext j
  unfold hf updf
  by_cases hj : j = i
  · subst hj; simp [List.getD,hi]
  · rw [if_neg hj]
    simp [List.getD,List.getElem?_set,Ne.symm hj]
theorem put_defers (a : Act) (dst : Option Tmp) (u : Value) : (a.put dst u).defers = a.defers:=by cases dst <;> rfl
theorem TL.step {tv : TV} {new : Option LB} (hg : o.guard = none) (hs : TStep P B w0 σ.h σ.s o tv new) (h : TL P B w0 gh ops rest (σ.step o.dst tv new) Q) : TL P B w0 gh ops (o :: rest) σ Q:=fun ρ a w hr=>by
  refine wpList_plain hg fun K hK=>hs ρ (hf σ.h) w a (fun i _ _=>.inr rfl) (fun _=>hf_ge (Nat.le_refl _)) hr.rel (fun x _=>tev_dn hr.slots x) K _ fun u w' ρ' R' KK hb hd=>?_
  refine hK _ _ (h ρ' _ _ ⟨?_,?_,?_,by rw [put_defers]; exact hr.defers⟩)
  · have e : hf (σ.step o.dst tv new).h = addf (hf σ.h) σ.h.length new:=by
      unfold St.step addf
      cases new with
      | none=>rfl
      | some b=>exact hf_app _ _
    rw [e]
    exact put_dn (DnL.keep KK _ _ hr.slots) hd
  · have e : hf (σ.step o.dst tv new).h = addf (hf σ.h) σ.h.length new:=by
      unfold St.step addf
      cases new with
      | none=>rfl
      | some b=>exact hf_app _ _
    rw [e]
    exact DnL.keep KK _ _ hr.ghost
  · have e : hf (σ.step o.dst tv new).h = addf (hf σ.h) σ.h.length new:=by
      unfold St.step addf
      cases new with
      | none=>rfl
      | some b=>exact hf_app _ _
    rw [e]
    exact R'
theorem yielded_of {a : Act} {ρ : Nat→Value} {w : World} (hr : RelS B w0 gh ρ σ a w) {j d : Nat} {og : Oper} {b : Bool} (ho : ops[j]? = some og) (hd : og.dst = some d) (hdl : d < σ.s.length) (hb : tev σ.s (.tmp d) = .v (.bool b)) : yielded ops a.tmps j = some b:=by
  have h1:=tev_dn hr.slots (.tmp d)
  rw [hb] at h1
  simp only [Dn,Act.eval] at h1
  have hl:=hr.slots.len
  have hdt : d < a.tmps.size:=by simp at hl; omega
  have h2 : a.tmps[d]? = some (.bool b):=by
    rw [Array.getD_eq_getD_getElem?,Array.getElem?_eq_getElem hdt] at h1
    rw [Array.getElem?_eq_getElem hdt]
    simpa using h1
  simp [yielded,ho,hd,h2]
def isB : Value→Bool→Bool
  | .bool b,c=>b == c
  | _,_=>false
theorem yielded_isB {a : Act} {ρ : Nat→Value} {w : World} (hr : RelS B w0 gh ρ σ a w) {j d : Nat} {og : Oper} {x : Value} (c : Bool) (ho : ops[j]? = some og) (hd : og.dst = some d) (hdl : d < σ.s.length) (hb : tev σ.s (.tmp d) = .v x) : (yielded ops a.tmps j == some c) = isB x c:=by
  have h1:=tev_dn hr.slots (.tmp d)
  rw [hb] at h1
  simp only [Dn,Act.eval] at h1
  have hl:=hr.slots.len
  have hdt : d < a.tmps.size:=by simp at hl; omega
  have h2 : a.tmps[d]? = some x:=by
    rw [Array.getD_eq_getD_getElem?,Array.getElem?_eq_getElem hdt] at h1
    rw [Array.getElem?_eq_getElem hdt]
    simpa using h1
  cases x <;> simp [yielded,ho,hd,h2,isB]
theorem TL.skip_g {j d : Nat} {og : Oper} {x : Value} {b' : Bool} (hg : o.guard = some (j,b')) (ho : ops[j]? = some og) (hd : og.dst = some d) (hdl : d < σ.s.length) (hb : tev σ.s (.tmp d) = .v x) (hne : isB x b' = false)
    (h : TL P B w0 gh ops rest (σ.put o.dst (.v undef)) Q) : TL P B w0 gh ops (o :: rest) σ Q:=fun ρ a w hr=>by
  have hy:=yielded_isB hr b' ho hd hdl hb
  unfold wpList
  rw [if_neg (by simp only [Region.wanted,hg]; rw [hy,hne]; simp)]
  exact h ρ _ w ⟨put_dn hr.slots (by simp [Dn]),hr.ghost,hr.rel,by rw [put_defers]; exact hr.defers⟩
def setsV {α : Type} (cs : List α) (off : Nat) (l : List α) : List α:=cs.take off ++ (l ++ cs.drop (off + l.length))
theorem setsV_len {α : Type} (cs : List α) (off : Nat) (l : List α) (h : off + l.length ≤ cs.length) : (setsV cs off l).length = cs.length:=by
  unfold setsV
  simp
  omega
theorem setsV_cons {α : Type} (cs : List α) (off : Nat) (u : α) (l : List α) (h : off < cs.length) : setsV (cs.set off u) (off + 1) l = setsV cs off (u :: l):=by
  unfold setsV
  rw [List.take_set,List.drop_set_of_lt (by omega),List.length_cons,show off + 1 + l.length = off + (l.length + 1) by omega]
  have h1 : (cs.take (off + 1)).set off u = cs.take off ++ [u]:=by
    rw [List.take_add_one,List.getElem?_eq_getElem h]
    simp only [Option.toList_some]
    rw [List.set_append,if_neg (by simp; omega)]
    simp [Nat.min_eq_left (Nat.le_of_lt h)]
  rw [h1]
  simp
theorem setsV_dn {C : Cx} {cs l : List TV} {vs us : List Value} (off : Nat) (h : DnL C cs vs) (h' : DnL C l us) : DnL C (setsV cs off l) (setsV vs off us):=by
  unfold setsV
  rw [h'.len]
  exact (h.take off).append (h'.append (h.drop _))
theorem store_blk {t : TypeId} {g off : Nat} : ∀ (l : List Value) (i : Nat) (w : World) (cs : List Value),Blk w g t cs.toArray→(∀ u ∈ l,u.oneCell' = true)→off + i + l.length ≤ cs.length →
    ∃ w',(storeCells ⟨g,off,none⟩ l i).run P w = .ok () w'∧Blk w' g t (setsV cs (off + i) l).toArray∧w.grownBy w' (some g)
  | [],i,w,cs,hb,_,_=>⟨w,rfl,by simpa [setsV] using hb,World.grownBy.refl _ _⟩
  | u :: l,i,w,cs,hb,h1,hl=>by
    have hlt : off + i < cs.length:=by simp at hl; omega
    have ha : (⟨g,off,none⟩ : Addr).add i = ⟨g,off + i,none⟩:=by unfold Addr.add; split <;> simp_all
    have hc : w.cell? ⟨g,off + i,none⟩ = some cs[off + i]:=by rw [hb.cell]; simp [hlt]
    have hb2:=hb.put (off + i) u
    rw [List.setIfInBounds_toArray] at hb2
    obtain ⟨w',h2,h3,h4⟩:=store_blk (off:=off) l (i + 1) (w.setCell ⟨g,off + i,none⟩ u) (cs.set (off + i) u) hb2 (fun x hx=>h1 x (by simp [hx])) (by simp at hl ⊢; omega)
    refine ⟨w',?_,?_,grown_trans (grown_set _ g _ u) h4⟩
    · simp only [storeCells,Sem.run_bind,ha,run_store P w _ u _ (h1 u (by simp)),hc,hb.frozen,Bool.false_eq_true,if_false,Result.andThen_ok,h2]
    · rw [show off + (i + 1) = off + i + 1 by omega,setsV_cons cs _ u l hlt] at h3
      exact h3
theorem store_own {e : TypeId} {sz n c g off : Nat} : ∀ (l : List Value) (i : Nat) (w : World) (xs : List Value),w.ownsRow B e sz (.slice (some ⟨g,0,none⟩) n c) n xs→(∀ u ∈ l,u.oneCell' = true)→off + i + l.length ≤ xs.length →
    ∃ w',(storeCells ⟨g,off,none⟩ l i).run P w = .ok () w'∧w'.ownsRow B e sz (.slice (some ⟨g,0,none⟩) n c) n (setsV xs (off + i) l)∧w.grownBy w' (some g)
  | [],i,w,xs,hb,_,_=>⟨w,rfl,by simpa [setsV] using hb,World.grownBy.refl _ _⟩
  | u :: l,i,w,xs,hb,h1,hl=>by
    have hlt : off + i < xs.length:=by simp at hl; omega
    have ha : (⟨g,off,none⟩ : Addr).add i = ⟨g,off + i,none⟩:=by unfold Addr.add; split <;> simp_all
    have hc : w.cell? ⟨g,off + i,none⟩ = some xs[off + i]:=by rw [hb.cellAt _ (by have:=hb.1; omega)]; exact List.getElem?_eq_getElem hlt
    have hb2:=(hb.stored (off + i) u).1
    obtain ⟨w',h2,h3,h4⟩:=store_own (off:=off) l (i + 1) (w.setCell ⟨g,off + i,none⟩ u) (xs.set (off + i) u) hb2 (fun x hx=>h1 x (by simp [hx])) (by simp at hl ⊢; omega)
    refine ⟨w',?_,?_,grown_trans (grown_set _ g _ u) h4⟩
    · simp only [storeCells,Sem.run_bind,ha,run_store P w _ u _ (h1 u (by simp)),hc,hb.frozenAt (off + i),Bool.false_eq_true,if_false,Result.andThen_ok,h2]
    · rw [show off + (i + 1) = off + i + 1 by omega,setsV_cons xs _ u l hlt] at h3
      exact h3
theorem cells_one {ρ : Nat→Value} {h' : Nat→LB} {w : World} (R : Rel B w0 ρ h' w) : ∀ {l : List TV} {us : List Value},DnL (cxOf B ρ h' w) l us→l.all TV.one = true→∀ u ∈ us,u.oneCell' = true
  | [],us,hd,_,u,hu=>by simp only [DnL] at hd; subst hd; cases hu
  | t :: l,us,hd,ha,u,hu=>by
    simp only [DnL] at hd
    obtain ⟨u0,us',rfl,h2,h3⟩:=hd
    simp only [List.all_cons,Bool.and_eq_true] at ha
    rcases List.mem_cons.1 hu with rfl | hu
    · exact R.one h2 ha.1
    · exact cells_one R h3 ha.2 u hu
theorem TL.store {t t0 : TypeId} {x y : Operand} {i off : Nat} {cs l : List TV} {ti : TI} (hg : o.guard = none) (ho : o.op = .store t x y) (hx : tev σ.s x = .ptr i off) (hi : hf σ.h i = .cells t0 cs) (ht : tiOf P t = some ti) (hy : cellsT (tev σ.s y) = some l)
    (hl : l.length = ti.n) (h1 : l.all TV.one = true) (hoff : off + l.length ≤ cs.length) (h : TL P B w0 gh ops rest ⟨match o.dst with | some d=>σ.s.set d .any | none=>σ.s,σ.h.set i (.cells t0 (setsV cs off l)),σ.g⟩ Q) : TL P B w0 gh ops (o :: rest) σ Q:=fun ρ a w hr=>by
  have R:=hr.rel
  have e1:=tev_dn hr.slots x
  rw [hx] at e1
  simp only [Dn] at e1
  obtain ⟨p1,g,p2,p3⟩:=e1
  have e2:=R.cellsT (tev_dn hr.slots y) hy
  obtain ⟨vs,q1,q2,q3,q4⟩:=R.cells_at hi p2
  have hlen:=e2.len
  obtain ⟨w',r1,r2,r3⟩:=store_blk (P:=P) (off:=off) (a.eval y).cells.toList 0 w vs q1 (cells_one R e2 h1) (by have:=q3.len; omega)
  have r1' : (storeVar t ⟨g,off,none⟩ (a.eval y)).run P w = .ok () w':=by
    have hs : (a.eval y).cells.size = ti.n:=by rw [← hl,← hlen]; simp
    simp [storeVar,ti_size ht,hs,r1]
  have hhere : (hf σ.h i).here:=by rw [hi]; trivial
  have KK : Keeps (cxOf B ρ (hf σ.h) w) (cxOf B ρ (updf (hf σ.h) i (.cells t0 (setsV cs off l))) w'):=.put hhere trivial p2 r3
  refine wpList_plain hg fun K hK=>?_
  unfold Oper.wp
  have hrun : (execOp a.eval o).run P w = .ok .skip w':=by simp [execOp,ho,p3,Instr.storeAt,Instr.sureAddr,r1']
  rw [hrun]
  have hil : i < σ.h.length:=hf_lt hi (by simp)
  refine hK _ _ (h ρ _ _ ⟨?_,?_,?_,by rw [put_defers]; exact hr.defers⟩)
  · simp only [hf_set hil]
    exact put_dn (DnL.keep KK _ _ hr.slots) (by simp [Dn])
  · simp only [hf_set hil]
    exact DnL.keep KK _ _ hr.ghost
  · simp only [hf_set hil]
    refine R.put hhere trivial p2 q2 r3 (fun t cs' e=>?_) (fun e sz els e'=>by cases e')
    injection e with e1 e3
    subst e1 e3
    refine ⟨g,setsV vs off (a.eval y).cells.toList,q4,by simpa using r2,q2,DnL.keep KK _ _ (setsV_dn off q3 e2)⟩
theorem flatten_set {α : Type} (sz : Nat) : ∀ (css : List (List α)) (k j : Nat) (c : List α) (l : List α),(∀ x ∈ css,x.length = sz)→css[k]? = some c→j + l.length ≤ sz→setsV css.flatten (k * sz + j) l = (css.set k (setsV c j l)).flatten
  | [],k,j,c,l,h,hk,hj=>by simp at hk
  | x :: css,0,j,c,l,h,hk,hj=>by
    simp only [List.getElem?_cons_zero,Option.some.injEq] at hk
    subst hk
    have hx:=h x (by simp)
    simp only [List.flatten_cons,List.set_cons_zero,Nat.zero_mul,Nat.zero_add,setsV]
    rw [List.take_append_of_le_length (by omega),List.drop_append_of_le_length (by omega)]
    simp
  | x :: css,k + 1,j,c,l,h,hk,hj=>by
    simp only [List.getElem?_cons_succ] at hk
    have hx:=h x (by simp)
    have ih:=flatten_set sz css k j c l (fun y hy=>h y (by simp [hy])) hk hj
    simp only [List.flatten_cons,List.set_cons_succ]
    rw [← ih]
    unfold setsV
    rw [show (k + 1) * sz + j = x.length + (k * sz + j) by rw [hx,Nat.add_mul]; omega,show x.length + (k * sz + j) + l.length = x.length + (k * sz + j + l.length) by omega,List.take_length_add_append,List.drop_length_add_append]
    simp
theorem TL.store_row {t e : TypeId} {x y : Operand} {i off k j sz : Nat} {els : List (List TV)} {c l : List TV} {ti : TI} (hg : o.guard = none) (ho : o.op = .store t x y) (hx : tev σ.s x = .ptr i off) (hi : hf σ.h i = .row e sz els) (hoff : off = k * sz + j) (hk : els[k]? = some c) (ht : tiOf P t = some ti) (hy : cellsT (tev σ.s y) = some l)
    (hl : l.length = ti.n) (h1 : l.all TV.one = true) (hj : j + l.length ≤ sz) (h : TL P B w0 gh ops rest ⟨match o.dst with | some d=>σ.s.set d .any | none=>σ.s,σ.h.set i (.row e sz (els.set k (setsV c j l))),σ.g⟩ Q) : TL P B w0 gh ops (o :: rest) σ Q:=fun ρ a w hr=>by
  have R:=hr.rel
  have e1:=tev_dn hr.slots x
  rw [hx] at e1
  simp only [Dn] at e1
  obtain ⟨p1,g,p2,p3⟩:=e1
  have e2:=R.cellsT (tev_dn hr.slots y) hy
  obtain ⟨A,cap,css,q1,q2,q3,q4⟩:=R.row i _ _ _ hi
  replace p2 : blkOf (ρ i) = some g:=p2
  rw [q1] at p2 q2
  obtain ⟨cv,q5,q6⟩:=q4.at_ k c hk
  have hlen:=e2.len
  have hkl : k < css.length:=(List.getElem?_eq_some_iff.1 q5).1
  have hA : A = some ⟨g,0,none⟩:=by
    rcases A with _ | ad
    · simp [blkOf] at p2
    · simp only [blkOf,Option.some.injEq] at p2
      rcases q2.2 with ⟨hv,_⟩ | ⟨g',cap',cur,hv,_⟩
      · cases hv
      · injection hv with hA
        injection hA with hA
        subst hA
        simp at p2
        rw [p2]
  subst hA
  subst hoff
  have hfl:=flatten_set sz css k j cv (a.eval y).cells.toList q3 q5 (by omega)
  have hbound : k * sz + j + (a.eval y).cells.toList.length ≤ css.flatten.length:=by
    have h3:=q2.1
    rw [h3,← q4.len,hlen]
    have : (k + 1) * sz ≤ css.length * sz:=Nat.mul_le_mul_right _ hkl
    rw [Nat.add_mul] at this
    omega
  obtain ⟨w',r1,r2,r3⟩:=store_own (P:=P) (off:=k * sz + j) (a.eval y).cells.toList 0 w css.flatten q2 (cells_one R e2 h1) (by simpa using hbound)
  rw [Nat.add_zero,hfl] at r2
  have r1' : (storeVar t ⟨g,k * sz + j,none⟩ (a.eval y)).run P w = .ok () w':=by
    have hs : (a.eval y).cells.size = ti.n:=by rw [← hl,← hlen]; simp
    simp [storeVar,ti_size ht,hs,r1]
  have hhere : (hf σ.h i).here:=by rw [hi]; trivial
  have p2' : blkOf (ρ i) = some g:=by rw [q1]; rfl
  have hB : B ≤ g:=by
    rcases q2.2 with ⟨hv,_⟩ | ⟨g',cap',cur,hv,hb,_⟩
    · cases hv
    · injection hv with hA
      injection hA with hA
      injection hA with hA
      subst hA
      exact hb
  have KK : Keeps (cxOf B ρ (hf σ.h) w) (cxOf B ρ (updf (hf σ.h) i (.row e sz (els.set k (setsV c j l)))) w'):=.put hhere trivial p2' r3
  refine wpList_plain hg fun K hK=>?_
  unfold Oper.wp
  have hrun : (execOp a.eval o).run P w = .ok .skip w':=by simp [execOp,ho,p3,Instr.storeAt,Instr.sureAddr,r1']
  rw [hrun]
  have hil : i < σ.h.length:=hf_lt hi (by simp)
  refine hK _ _ (h ρ _ _ ⟨?_,?_,?_,by rw [put_defers]; exact hr.defers⟩)
  · simp only [hf_set hil]
    exact put_dn (DnL.keep KK _ _ hr.slots) (by simp [Dn])
  · simp only [hf_set hil]
    exact DnL.keep KK _ _ hr.ghost
  · simp only [hf_set hil]
    refine R.put hhere trivial p2' hB r3 (fun t cs' e=>by cases e) (fun e' sz' els' e1=>?_)
    injection e1 with e3 e4 e5
    subst e3 e4 e5
    refine ⟨some ⟨g,0,none⟩,cap,css.set k (setsV cv j (a.eval y).cells.toList),by rw [List.length_set]; exact q1,?_,fun y hy=>?_,DnLL.keep KK _ _ (q4.set k (setsV_dn j q6 e2))⟩
    · rw [q1,List.length_set]
      exact r2
    · rcases List.mem_or_eq_of_mem_set hy with h3 | h3
      · exact q3 y h3
      · rw [h3]
        have:=q3 cv (List.mem_of_getElem? q5)
        rw [setsV_len _ _ _ (by omega),this]
end
end Go.Proofs.YtpgfhkbnngjegaaGreatDoor
