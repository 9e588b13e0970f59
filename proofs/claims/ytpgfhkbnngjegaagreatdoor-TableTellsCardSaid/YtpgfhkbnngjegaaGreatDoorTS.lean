/- slices.SortFunc at a row of one's own whose elements are one cell each: the rule. No condition. -/
import Derived.Test.YtpgfhkbnngjegaaGreatDoorTR
import Derived.Test.YtpgfhkbnngjegaaGreatDoorT29
namespace Go.Proofs.YtpgfhkbnngjegaaGreatDoor
open Go.RowKit Go.Shelf Go.Sort
set_option linter.unusedVariables false
set_option linter.unusedSimpArgs false
set_option maxRecDepth 20000
structure SortC (P : Program) (f : FuncId) : Prop where
 ent : entB P f = true
 sort : ∀ (α : Type) [Inhabited α] (enc : α→Value) (cf : α→α→Int) (g : Nat) (cb : Array Value) (blk cap : Nat) (d : Array α) (w : World),OneCell enc→SWO (ltOf cf)→(∀ args w,(callFunc g args).run P w = .ok (.enter g args) w)→CmpLays1 P g cb enc cf blk 0 d.size w→Holds enc w blk 0 d→blk < w.heap.size→d.size < 4611686018427387904 →
  Calls P f #[.slice (some ⟨blk,0,none⟩) d.size cap,.func (.func g) #[] cb] w fun e w'=>e = .returned (.tuple #[])∧∃ d' n os,PermIn 0 d.size d d'∧SortedIn (ltOf cf) 0 d.size d'∧w' = sortWorld enc w blk 0 n d' os
 none : ∀ (p : Option Addr) (cap : Nat) (fv : Value) (w : World),Calls P f #[.slice p 0 cap,fv] w fun e w'=>e = .returned (.tuple #[])∧w' = w
section
variable {α : Type} [Inhabited α] {enc : α→Value} {w : World} {g n : Nat} {d : Array α} {os : Array Obj}
theorem sw_heap : (sortWorld enc w g 0 n d os).heap = w.heap.modify g (onCells (putCells enc 0 d)) ++ os:=rfl
theorem sw_grown : w.grownBy (sortWorld enc w g 0 n d os) (some g):=by
 refine ⟨rfl,rfl,rfl,?_,fun k hk hne=>?_⟩
 ·rw [sw_heap,Array.size_append,Array.size_modify]; omega
 ·rw [sw_heap,Array.getElem?_append_left (by rw [Array.size_modify]; exact hk),Array.getElem?_modify,if_neg (fun e=>hne (by rw [e]))]
theorem sw_at {cur : Array Value} {ty : TypeId} {fr : Nat × Nat} (h : w.heap[g]? = some (.cells cur ty fr)) : (sortWorld enc w g 0 n d os).heap[g]? = some (.cells (putCells enc 0 d cur) ty fr):=by
 have hlt:=(Array.getElem?_eq_some_iff.1 h).1
 rw [sw_heap,Array.getElem?_append_left (by rw [Array.size_modify]; exact hlt),Array.getElem?_modify,if_pos rfl,h]
 rfl
theorem putCells_take {cur : Array Value} (h : d.size ≤ cur.size) : (putCells enc 0 d cur).toList.take d.size = d.toList.map enc:=by
 apply List.ext_getElem?
 intro k
 rw [List.getElem?_take,List.getElem?_map]
 by_cases hk : k < d.size
 ·rw [if_pos hk]
  have h1 : d.toList[k]? = some d[k]:=by rw [Array.getElem?_toList]; exact Array.getElem?_eq_getElem hk
  rw [h1]
  have hk2 : k < cur.size:=by omega
  unfold putCells
  rw [Array.getElem?_toList,Array.getElem?_mapIdx,Array.getElem?_eq_getElem hk2]
  simp [hk]
 ·rw [if_neg hk,Array.getElem?_toList,Array.getElem?_eq_none (by omega)]
  rfl
theorem putCells_size {cur : Array Value} : (putCells enc 0 d cur).size = cur.size:=by simp [putCells]
theorem sw_own {base : Nat} {e : TypeId} {m c : Nat} {xs : List Value} (h : w.ownsRow base e 1 (.slice (some ⟨g,0,none⟩) m c) m xs) (hd : d.size = m) : (sortWorld enc w g 0 n d os).ownsRow base e 1 (.slice (some ⟨g,0,none⟩) m c) m (d.toList.map enc):=by
 refine ⟨by simp [hd],?_⟩
 rcases h.2 with ⟨hv,_⟩ | ⟨g',cap,cur,hv,h1,h2,h3,h4,h5,h6⟩
 ·cases hv
 ·injection hv with hv1 _ hv2
  injection hv1 with hv1
  injection hv1 with hv1
  subst hv1 hv2
  refine .inr ⟨g,c,_,rfl,h1,sw_at h2,h3,h4,by rw [putCells_size]; exact h5,?_⟩
  subst hd
  rw [Nat.mul_one]
  exact putCells_take (by rw [h5]; omega)
end
abbrev SortA (C : Cx) {β : Type} (t : β→TV) (L : List β):={p : Value × β // Dn C (t p.2) p.1∧p.2 ∈ L}
theorem dnll_pairs {C : Cx} {β : Type} {t : β→TV} {L : List β} : ∀ {l : List β} {css : List (List Value)},(∀ x ∈ l,x ∈ L)→DnLL C (l.map fun x=>[t x]) css→∃ ps : List (SortA C t L),css = ps.map (fun a=>[a.1.1])∧ps.map (fun a=>a.1.2) = l
 | [],css,_,h=>by
  simp only [List.map_nil,DnLL] at h
  exact ⟨[],by simp [h],rfl⟩
 | x :: l,css,hm,h=>by
  simp only [List.map_cons,DnLL,DnL] at h
  obtain ⟨u,us,rfl,⟨v,vs,rfl,h1,rfl⟩,h2⟩:=h
  obtain ⟨ps,rfl,h4⟩:=dnll_pairs (l:=l) (fun y hy=>hm y (by simp [hy])) h2
  exact ⟨⟨(v,x),h1,hm x (by simp)⟩ :: ps,rfl,by simp [h4]⟩
theorem pairs_dnll {C C' : Cx} {β : Type} {t : β→TV} {L : List β} (K : Keeps C C') : ∀ (ps : List (SortA C t L)),DnLL C' ((ps.map fun a=>a.1.2).map fun x=>[t x]) (ps.map fun a=>[a.1.1])
 | []=>by simp [DnLL]
 | a :: ps=>by
  simp only [List.map_cons,DnLL,DnL]
  exact ⟨_,_,rfl,⟨_,_,rfl,Dn.keep K _ _ a.2.1,rfl⟩,pairs_dnll K ps⟩
theorem flat_one {β : Type} (f : β→Value) : ∀ l : List β,(l.map fun a=>[f a]).flatten = l.map f
 | []=>rfl
 | a :: l=>by simp [flat_one f l]
theorem swo_of {α β : Type} {cf : β→β→Int} (h : SWO (ltOf cf)) (p : α→β) : SWO (ltOf fun a b : α=>cf (p a) (p b)):=⟨fun x=>h.irrefl _,fun x y z=>h.trans _ _ _,fun x y z=>h.ntrans _ _ _⟩
theorem perm_in {α : Type} [Inhabited α] {d d' : Array α} (h : PermIn 0 d.size d d') : d'.size = d.size∧d'.toList.Perm d.toList:=by
 obtain ⟨h1,_,h3⟩:=h
 refine ⟨h1,?_⟩
 rw [Array.extract_size,← h1,Array.extract_size] at h3
 exact h3
theorem sorted_in {α : Type} [Inhabited α] {lt : α→α→Bool} {d : Array α} {m : Nat} (hm : d.size = m) (h : SortedIn lt 0 m d) : d.toList.Pairwise fun a b=>lt b a = false:=by
 rw [List.pairwise_iff_getElem]
 intro i j hi hj hij
 have hi' : i < d.size:=by simpa using hi
 have hj' : j < d.size:=by simpa using hj
 have:=h i j (Nat.zero_le _) hij (by omega)
 rw [getElem!_pos d i hi',getElem!_pos d j hj'] at this
 simpa using this
section
variable {P : Program} {B : Nat} {w0 : World} {T : Tab} {n : Nat} {e : Env} {h : List XLB} {gs : Frames}
set_option maxHeartbeats 1000000 in
theorem WCall.sort {f : FuncId} (hC : SortC P f) {i j : Nat} {e0 : TypeId} {β : Type} {t : β→TV} {l : List β} {hp : NlLL (l.map fun x=>[t x])} {g : FuncId} {tk : TypeId} {kv : Value} {hkv : Nl (.v kv)} {cf : β→β→Int} {dst : Option Tmp} {K : KK}
  (hgE : ∀ args w,(callFunc g args).run P w = .ok (.enter g args) w) (hO : SWO (ltOf cf)) (hi : hget h i = .row e0 1 (l.map fun x=>[t x]) hp) (hj : hget h j = .cells tk [.p (.v kv) hkv]) (hn : l.length ≤ 1000000) (h1 : ∀ x ∈ l,(t x).one = true) (hl : ∀ x,Nl (t x))
  (hcmp : ∀ (C : Cx) (x y : β) (u v : Value) (gk : Nat),x ∈ l→y ∈ l→Dn C (t x) u→Dn C (t y) v→C.w.cell? ⟨gk,0,none⟩ = some kv→Calls P g #[u,v,.pointer (some ⟨gk,0,none⟩)] C.w fun e w'=>e = .returned (.int .i64 (cf x y))∧GQ C.w w')
  (hx : ∀ l' : List β,l'.Perm l→l'.Pairwise (fun a b=>¬ cf b a < 0)→setK h i (.row e0 1 (l'.map fun x=>[t x]) (.map fun x _=>.cons (hl x) .nil)) fun h'=>putK n e dst .any fun e'=>K e' h' gs) :
  WCall P B w0 f [.row i,.fu (.func g) [.ptr j 0]] n e h gs dst K:=⟨by
 intro gh Q ops rest o cl fop cvs hg ho hcl hf hvs hdst hK ρ a w hr
 subst hdst
 have hi2 : Go.Proofs.YtpgfhkbnngjegaaGreatDoor.hf (h.map XLB.den) i = .row e0 1 (l.map fun x=>[t x]):=by rw [← hget_den,hi]; rfl
 have hj2 : Go.Proofs.YtpgfhkbnngjegaaGreatDoor.hf (h.map XLB.den) j = .cells tk [.v kv]:=by rw [← hget_den,hj]; rfl
 have HR : Rel B w0 ρ (Go.Proofs.YtpgfhkbnngjegaaGreatDoor.hf (h.map XLB.den)) w:=hr.rel
 refine wpList_plain hg fun K0 hK0=>?_
 have e1 : XV.denL [XV.row i,.fu (.func g) [.ptr j 0]] = cl.args.toList.map (tev (toL n e)) ++ XV.denL cvs:=by rw [hvs,denL_map (_ ++ _),List.map_append,← denL_map,← denL_map,evL_den]
 have g1:=tev_dn hr.slots fop
 rw [show (xst n e h gs).s = toL n e from rfl,hf] at g1
 simp only [Dn] at g1
 obtain ⟨cv,g2,g3⟩:=g1
 have g4 : DnL (cxOf B ρ (Go.Proofs.YtpgfhkbnngjegaaGreatDoor.hf (h.map XLB.den)) w) (cl.args.toList.map (tev (toL n e)) ++ XV.denL cvs) (cl.args.toList.map a.eval ++ cv):=(eval_list _ fun x _=>tev_dn hr.slots x).append g3
 rw [← e1] at g4
 simp only [XV.denL,XV.den,DnL,Dn] at g4
 obtain ⟨u0,us0,e2,⟨_,rfl⟩,u1,us1,rfl,⟨vs1,rfl,u2,us2,rfl,⟨_,gk,hgk,rfl⟩,rfl⟩,rfl⟩:=g4
 obtain ⟨A,c,css,r1,r2,r3,r4⟩:=HR.row i _ _ _ hi2
 obtain ⟨gk2,kvs,k1,k2,k3,k4⟩:=HR.blk j _ _ hj2
 have hgk2 : gk2 = gk:=by
  have hgk' : blkOf (ρ j) = some gk:=hgk
  rw [k1] at hgk'
  injection hgk'
 subst hgk2
 simp only [DnL,Dn] at k4
 obtain ⟨_,_,rfl,rfl,rfl⟩:=k4
 rw [show (cxOf B ρ (Go.Proofs.YtpgfhkbnngjegaaGreatDoor.hf (h.map XLB.den)) w).ρ i = ρ i from rfl] at e2
 unfold Oper.wp
 rw [call_run ho hcl g2 hC.ent]
 unfold Oper.upon
 rw [List.length_map] at r1 r2
 have e3 : (cl.args.map a.eval ++ cv.toArray) = #[.slice A l.length c,.func (.func g) #[] #[.pointer (some ⟨gk2,0,none⟩)]]:=by
  apply Array.ext'
  rw [r1] at e2
  simpa using e2
 rw [e3]
 by_cases hne : l = []
 ·subst hne
  refine (hC.none _ _ _ _).mono ?_
  rintro e' w' ⟨rfl,rfl⟩
  have hh:=hx [] (.refl _) .nil
  have hh:=setK_ok hh
  obtain ⟨e'',he',hh⟩:=putK_ok hh
  refine hK0 _ _ (hK _ _ _ hh ρ _ _ ?_)
  have hhs : (h.set i (.row e0 1 (([] : List β).map fun x=>[t x]) (.map fun x _=>.cons (hl x) .nil))).map XLB.den = h.map XLB.den:=by
   rw [hset_den (by rw [hi])]
  have e4 : xst n e'' (h.set i (.row e0 1 (([] : List β).map fun x=>[t x]) (.map fun x _=>.cons (hl x) .nil))) gs = ⟨putO (toL n e) o.dst .any,h.map XLB.den,denG gs⟩:=by
   simp only [xst,he',hhs,XV.den]
  rw [e4]
  refine ⟨?_,hr.ghost,HR,by rw [put_defers]; exact hr.defers⟩
  exact put_dn hr.slots (by simp [Dn])
 ·obtain ⟨g0,hA⟩ : ∃ g0,A = some ⟨g0,0,none⟩:=by
   rw [r1] at r2
   rcases r2.2 with ⟨_,h0⟩ | ⟨g',cap,cur,hv,_⟩
   ·exact absurd (List.eq_nil_of_length_eq_zero h0) hne
   ·injection hv with hv; exact ⟨g',hv⟩
  subst hA
  have R2:=r2
  rw [r1] at R2
  have hgb : blkOf (ρ i) = some g0:=by rw [r1]; rfl
  have hih : (Go.Proofs.YtpgfhkbnngjegaaGreatDoor.hf (h.map XLB.den) i).here:=by rw [hi2]; trivial
  have hjh : (Go.Proofs.YtpgfhkbnngjegaaGreatDoor.hf (h.map XLB.den) j).here:=by rw [hj2]; trivial
  have hgkne : gk2 ≠ g0:=fun e=>by
   subst e
   have:=HR.sep i j gk2 hih hjh hgb (by rw [k1]; rfl)
   subst this
   rw [hi2] at hj2
   cases hj2
  have hBg : B ≤ g0:=by
   rcases R2.2 with ⟨hv,_⟩ | ⟨g',cap,cur,hv,hb,_⟩
   ·cases hv
   ·injection hv with hv; injection hv with hv; injection hv with hv; rw [hv]; exact hb
  have hlt:=HR.inj i g0 hih hgb
  obtain ⟨ps,rfl,hps⟩:=dnll_pairs (L:=l) (fun x hx=>hx) r4
  have : Inhabited (SortA (cxOf B ρ (Go.Proofs.YtpgfhkbnngjegaaGreatDoor.hf (h.map XLB.den)) w) t l):=by
   cases ps with
   | nil=>exact absurd hps.symm hne
   | cons a _=>exact ⟨a⟩
  have hpl : ps.toArray.size = l.length:=by
   have:=congrArg List.length hps
   simpa using this
  rw [flat_one (fun a : SortA (cxOf B ρ (Go.Proofs.YtpgfhkbnngjegaaGreatDoor.hf (h.map XLB.den)) w) t l=>a.1.1)] at R2 r2
  have hKw : ∀ {w2 : World},w.grownBy w2 (some g0)→Keeps (cxOf B ρ (Go.Proofs.YtpgfhkbnngjegaaGreatDoor.hf (h.map XLB.den)) w) (cxOf B ρ (updf (Go.Proofs.YtpgfhkbnngjegaaGreatDoor.hf (h.map XLB.den)) i (Go.Proofs.YtpgfhkbnngjegaaGreatDoor.hf (h.map XLB.den) i)) w2):=fun hg2=>.put hih hih hgb hg2 (by rw [hi2]; trivial)
  have hupd : updf (Go.Proofs.YtpgfhkbnngjegaaGreatDoor.hf (h.map XLB.den)) i (Go.Proofs.YtpgfhkbnngjegaaGreatDoor.hf (h.map XLB.den) i) = Go.Proofs.YtpgfhkbnngjegaaGreatDoor.hf (h.map XLB.den):=by
   funext k
   by_cases hk : k = i
   ·subst hk; rw [updf_same]
   ·rw [updf_ne _ _ hk]
  rw [hupd] at hKw
  have hraw:=hC.sort (SortA (cxOf B ρ (Go.Proofs.YtpgfhkbnngjegaaGreatDoor.hf (h.map XLB.den)) w) t l) (fun a=>a.1.1) (fun a b=>cf a.1.2 b.1.2) g #[.pointer (some ⟨gk2,0,none⟩)] g0 c ps.toArray w
   (fun a=>HR.one a.2.1 (h1 _ a.2.2)) (swo_of hO fun a : SortA (cxOf B ρ (Go.Proofs.YtpgfhkbnngjegaaGreatDoor.hf (h.map XLB.den)) w) t l=>a.1.2) hgE
   (fun m os dk hdk x y=>by
    have hgw : w.grownBy (sortWorld (fun a : SortA (cxOf B ρ (Go.Proofs.YtpgfhkbnngjegaaGreatDoor.hf (h.map XLB.den)) w) t l=>a.1.1) w g0 0 m dk os) (some g0):=sw_grown
    have hkk:=(k2.grown hgw (fun e=>hgkne (by injection e with e; exact e.symm))).cell 0
    refine (hcmp (cxOf B ρ (Go.Proofs.YtpgfhkbnngjegaaGreatDoor.hf (h.map XLB.den)) _) x.1.2 y.1.2 x.1.1 y.1.1 gk2 x.2.2 y.2.2 (Dn.keep (hKw hgw) _ _ x.2.1) (Dn.keep (hKw hgw) _ _ y.2.1) hkk).mono ?_
    rintro e' w' ⟨rfl,q,os',hq⟩
    exact ⟨rfl,q,os',hq⟩)
   (fun k hk=>by
    have hk' : k < l.length:=by rw [← hpl]; exact hk
    rcases R2.2 with ⟨hv,_⟩ | ⟨g',cap,cur,hv,hb,hcur,hq1,hq2,hq3,hq4⟩
    ·cases hv
    injection hv with hv1 _ hv2
    injection hv1 with hv1
    injection hv1 with hv1
    subst hv1 hv2
    rw [Nat.mul_one] at hq4
    have hB : Blk w g0 e0 cur:=hcur
    refine ⟨?_,by rw [Nat.zero_add]; exact hB.frozen k⟩
    rw [Nat.zero_add,hB.cell k]
    have hpk : k < ps.length:=by simpa using hk
    have e5 : (cur.toList.take l.length)[k]? = some (ps[k].1.1):=by rw [hq4,List.getElem?_map,List.getElem?_eq_getElem hpk]; rfl
    rw [List.getElem?_take,if_pos hk',Array.getElem?_toList] at e5
    rw [e5,getElem!_pos ps.toArray k hk]
    simp)
   hlt (by rw [hpl]; omega)
  rw [hpl] at hraw
  refine hraw.mono ?_
  rintro e' w' ⟨rfl,d',n',os,hpm,hsd,rfl⟩
  rw [← hpl] at hpm
  obtain ⟨hsz,hperm⟩:=perm_in hpm
  have hsort:=sorted_in (by rw [hsz,hpl]) hsd
  have hh:=hx (d'.toList.map fun a=>a.1.2) ((hperm.map _).trans (List.Perm.of_eq hps)) (by
   rw [List.pairwise_map]
   refine hsort.imp fun {a b} hab=>?_
   unfold ltOf at hab
   simpa using hab)
  have hh:=setK_ok hh
  obtain ⟨e'',he',hh⟩:=putK_ok hh
  have hgw : w.grownBy (sortWorld (fun a : SortA (cxOf B ρ (Go.Proofs.YtpgfhkbnngjegaaGreatDoor.hf (h.map XLB.den)) w) t l=>a.1.1) w g0 0 n' d' os) (some g0):=sw_grown
  have hdl : d'.toList.length = l.length:=by rw [← hpl,← hsz]; simp
  have hil : i < (h.map XLB.den).length:=hf_lt hi2 (by simp)
  have KK : Keeps (cxOf B ρ (Go.Proofs.YtpgfhkbnngjegaaGreatDoor.hf (h.map XLB.den)) w) (cxOf B ρ (updf (Go.Proofs.YtpgfhkbnngjegaaGreatDoor.hf (h.map XLB.den)) i (.row e0 1 ((d'.toList.map fun a=>a.1.2).map fun x=>[t x]))) (sortWorld (fun a : SortA (cxOf B ρ (Go.Proofs.YtpgfhkbnngjegaaGreatDoor.hf (h.map XLB.den)) w) t l=>a.1.1) w g0 0 n' d' os)):=.put hih trivial hgb hgw
  refine hK0 _ _ (hK _ _ _ hh ρ _ _ ?_)
  have e4 : xst n e'' (h.set i (.row e0 1 ((d'.toList.map fun a=>a.1.2).map fun x=>[t x]) (.map fun x _=>.cons (hl x) .nil))) gs = ⟨putO (toL n e) o.dst .any,(h.map XLB.den).set i (.row e0 1 ((d'.toList.map fun a=>a.1.2).map fun x=>[t x])),denG gs⟩:=by
   simp only [xst,he',List.map_set]
   rfl
  rw [e4]
  refine ⟨?_,?_,?_,by rw [put_defers]; exact hr.defers⟩
  ·simp only [hf_set hil]
   exact put_dn (DnL.keep KK _ _ hr.slots) (by simp [Dn])
  ·simp only [hf_set hil]
   exact DnL.keep KK _ _ hr.ghost
  ·simp only [hf_set hil]
   refine HR.put hih trivial hgb hBg hgw (fun t cs e=>by cases e) (fun e sz els e5=>?_)
   injection e5 with e5 e6 e7
   subst e5 e6 e7
   refine ⟨some ⟨g0,0,none⟩,c,d'.toList.map fun a=>[a.1.1],by rw [r1]; simp only [List.length_map,hdl],?_,fun x hx=>by obtain ⟨y,_,rfl⟩:=List.mem_map.1 hx; rfl,pairs_dnll KK _⟩
   rw [r1,flat_one (fun a : SortA (cxOf B ρ (Go.Proofs.YtpgfhkbnngjegaaGreatDoor.hf (h.map XLB.den)) w) t l=>a.1.1)]
   simp only [List.length_map,hdl]
   exact sw_own R2 (by rw [hsz,hpl])⟩
end
end Go.Proofs.YtpgfhkbnngjegaaGreatDoor
