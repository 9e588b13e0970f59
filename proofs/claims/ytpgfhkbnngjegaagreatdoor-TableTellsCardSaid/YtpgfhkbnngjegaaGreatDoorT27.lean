/- Local rows from one of their elements on: how they are read, cut, and appended to. Condition: what the program's table says of types. -/
import Derived.Test.YtpgfhkbnngjegaaGreatDoorT7
import Derived.Test.YtpgfhkbnngjegaaGreatDoorT26
namespace Go.Proofs.YtpgfhkbnngjegaaGreatDoor
open Go.RowKit
set_option linter.unusedVariables false
set_option linter.unusedSimpArgs false
section
variable {P : Program}
theorem run_append_room_at (w : World) (t ty e : TypeId) (i : TypeInfo) (ht : P.underlying t = some (.slice e)) (hi : P.info? e = some i)
    (g off sLen sCap : Nat) (cur : Array Value) (hg : w.heap[g]? = some (.cells cur e (0,0)))
    (a : Addr) (m c : Nat) (news : List Value) (hl : news.length = m * i.size) (hnews : ∀ j u,news[j]? = some u→w.cell? (a.add j) = some u) (h1 : ∀ u ∈ news,u.oneCell' = true)
    (hroom : sLen + m ≤ sCap) (hfit : off + sLen * i.size + news.length ≤ cur.size) :
    (Builtin.append_ #[t,t] ty #[.slice (some ⟨g,off,none⟩) sLen sCap,.slice (some a) m c]).run P w =
      .ok (.slice (some ⟨g,off,none⟩) (sLen + m) sCap) (w.setRow g (cur.toList.take (off + sLen * i.size) ++ news ++ cur.toList.drop (off + sLen * i.size + news.length)).toArray):=by
  have hf:=run_firstCells_some (P:=P) w i.size m a m c news hl hnews
  have hst:=run_storeCells_at P g (off + sLen * i.size) e news 0 cur w hg (by simpa using hfit) h1
  simp only [Nat.add_zero] at hst
  simp [Builtin.append_,run_underlying ht,sizeOf,typeInfo,hi,Builtin.lenOf,hroom,hf,Addr.add_lit,hst]
theorem run_append_win {w : World} {t e : TypeId} {z : Value} {size bytes : Nat} (T : ElemTy P t e z size bytes) (ty : TypeId) {base n c m d p g : Nat} {ad : Addr} {xs ys : List Value}
    (hown : w.ownsRow base e size (.slice (some ⟨g,0,none⟩) n c) n xs) {e' : Option TypeId} (hr : Sees w e' size (some ad) m ys) (h1 : ∀ u ∈ ys,u.oneCell' = true) (hp : p ≤ n)
    (hb : (n + m) * bytes ≤ 140737488355328) (hbase : base ≤ w.heap.size) :
    ∃ V w',(Builtin.append_ #[t,t] ty #[.slice (some ⟨g,p * size,none⟩) (n - p) (c - p),.slice (some ad) m d]).run P w = .ok V w' ∧
      ((V = .slice (some ⟨g,p * size,none⟩) (n + m - p) (c - p)∧w'.ownsRow base e size (.slice (some ⟨g,0,none⟩) (n + m) c) (n + m) (xs ++ ys)∧w.grownBy w' (some g)) ∨
       (∃ c',V = .slice (some ⟨w.heap.size,0,none⟩) (n - p + m) c'∧w'.ownsRow base e size V (n - p + m) (xs.drop (p * size) ++ ys)∧w.grownBy w' none)):=by
  obtain ⟨i,hi,hz,hs,hy⟩:=info_parts T.hi
  have h63 : n + m ≤ maxLen:=by
    have:=Nat.le_mul_of_pos_right (n + m) T.hby
    simp only [maxLen]
    omega
  have hyl : ys.length = m * size:=hr.1
  rcases hown.2 with ⟨hv,_⟩ | ⟨g',cap,cur,hv,hbg,hg,hnc,hcm,hcs,htake⟩
  · cases hv
  injection hv with hA _ hcc
  injection hA with hA
  injection hA with hA
  subst hA hcc
  have hxl:=hown.1
  by_cases hroom : n - p + m ≤ c - p
  · have hroom' : n + m ≤ c:=by omega
    have e1 : p * size + (n - p) * size = n * size:=by rw [← Nat.add_mul]; congr 1; omega
    have hfit : p * i.size + (n - p) * i.size + ys.length ≤ cur.size:=by
      rw [hs,e1,hyl,hcs,← Nat.add_mul]
      exact Nat.mul_le_mul_right _ hroom'
    have hrun:=run_append_room_at (P:=P) w t ty e i T.ht hi g (p * i.size) (n - p) (c - p) cur hg ad m d ys (by rw [hyl,hs]) (hr.2.2 ad rfl).2 h1 hroom hfit
    rw [hs,e1] at hrun
    refine ⟨_,_,hrun,.inl ⟨by rw [show n - p + m = n + m - p by omega],⟨by rw [List.length_append,hxl,hyl,Nat.add_mul],.inr ⟨g,c,_,rfl,hbg,setRow_heap w g cur _ e _ hg,hroom',hcm,?_,?_⟩⟩,⟨rfl,rfl,rfl,by simp,fun k _ hk=>setRow_other w g k _ (fun e=>hk (by simp [e]))⟩⟩⟩
    · rw [hs,e1] at hfit
      simp only [List.size_toArray,List.length_append,List.length_take,List.length_drop,Array.length_toList]
      omega
    · rw [htake]
      have : (n + m) * size = (xs ++ ys).length:=by rw [List.length_append,hxl,hyl,Nat.add_mul]
      rw [this]
      simp only
      exact List.take_left
  · have holds : ∀ j u,(xs.drop (p * size))[j]? = some u→w.cell? ((⟨g,p * size,none⟩ : Addr).add j) = some u:=fun j u hu=>by
      rw [List.getElem?_drop] at hu
      have:=hown.cells (g:=g) rfl (p * size + j) u hu
      rw [Addr.add_lit] at this ⊢
      rwa [Nat.zero_add] at this
    have hol : (xs.drop (p * size)).length = (n - p) * i.size:=by
      rw [List.length_drop,hxl,hs,Nat.sub_mul]
    have hb2 : (n - p + m) * i.bytes ≤ 140737488355328:=by
      rw [hy]
      exact Nat.le_trans (Nat.mul_le_mul_right _ (by omega)) hb
    have hsm : n + m ≤ 9223372036854775807:=by simpa [maxLen] using h63
    have hrun:=run_append_grow (P:=P) w t ty e i z T.ht hi hz ⟨g,p * size,none⟩ (n - p) (c - p) (xs.drop (p * size)) hol holds ad m d ys (by rw [hyl,hs]) (hr.2.2 ad rfl).2 (by omega) (by omega) (growslice_fits (by omega) hb2)
    have hge:=grownCap_ge w (n - p + m) (c - p) e
    have hcm2 : grownCap w (n - p + m) (c - p) e ≤ maxLen:=grownCap_le_maxLen w (n - p + m) (c - p) e (by omega)
    have hlen : (xs.drop (p * size) ++ ys).length = (n - p + m) * size:=by rw [List.length_append,hol,hyl,hs,Nat.add_mul]
    refine ⟨_,_,hrun,.inr ⟨_,rfl,⟨hlen,.inr ⟨w.heap.size,_,_,rfl,hbase,heap_alloc_new w.drew _,hge,hcm2,?_,?_⟩⟩,⟨rfl,rfl,rfl,by simp,fun k hk _=>heap_alloc_old w.drew _ hk⟩⟩⟩
    · simp only [Array.size_append,List.size_toArray,size_zeroCells,T.hzs,hol,hyl,hs,← Nat.add_mul]
      congr 1
      omega
    · simp only [Array.toList_append,List.append_assoc]
      rw [← List.append_assoc,← hlen]
      exact List.take_left
theorem run_append_void {w : World} {t e : TypeId} {z : Value} {size bytes : Nat} (T : ElemTy P t e z size bytes) (ty : TypeId) {base m d : Nat} {A' : Option Addr} {ad : Addr} {ys : List Value}
    {e' : Option TypeId} (hr : Sees w e' size (some ad) m ys) (h1 : ∀ u ∈ ys,u.oneCell' = true) (hm : 0 < m)
    (hb : m * bytes ≤ 140737488355328) (hbase : base ≤ w.heap.size) :
    ∃ V w',(Builtin.append_ #[t,t] ty #[.slice A' 0 0,.slice (some ad) m d]).run P w = .ok V w'∧∃ c',V = .slice (some ⟨w.heap.size,0,none⟩) m c'∧w'.ownsRow base e size V m ys∧w.grownBy w' none:=by
  rcases A' with _ | b
  · have hown : w.ownsRow base e size (.slice none 0 0) 0 ([] : List Value):=⟨by simp,.inl ⟨rfl,rfl⟩⟩
    obtain ⟨A,c',w',hrun,h2,h3,h4⟩:=run_append_sees T ty (d:=d) hown hr h1 (by simpa using hb) hbase
    have hA : A = some ⟨w.heap.size,0,none⟩:=by
      obtain ⟨g,cap,hv,_,_⟩:=h2.form (by omega)
      injection hv with hv _ _
      subst hv
      rcases h4 with h4 | h4
      · cases h4
      · injection h4 with h4
        have h4 : g = w.heap.size:=h4
        rw [h4]
    subst hA
    simp only [Nat.zero_add,List.nil_append] at hrun h2
    exact ⟨_,w',hrun,c',rfl,h2,h3⟩
  · obtain ⟨i,hi,hz,hs,hy⟩:=info_parts T.hi
    have h63 : m ≤ maxLen:=by
      have:=Nat.le_mul_of_pos_right m T.hby
      simp only [maxLen]
      omega
    have hyl : ys.length = m * size:=hr.1
    have hb2 : (0 + m) * i.bytes ≤ 140737488355328:=by rw [hy,Nat.zero_add]; exact hb
    have hsm : m ≤ 9223372036854775807:=by simpa [maxLen] using h63
    have hrun:=run_append_grow (P:=P) w t ty e i z T.ht hi hz b 0 0 [] (by simp) (by simp) ad m d ys (by rw [hyl,hs]) (hr.2.2 ad rfl).2 (by omega) (by omega) (growslice_fits (by omega) hb2)
    have hge:=grownCap_ge w (0 + m) 0 e
    have hcm2 : grownCap w (0 + m) 0 e ≤ maxLen:=grownCap_le_maxLen w (0 + m) 0 e (by omega)
    simp only [Nat.zero_add,List.nil_append] at hrun hge hcm2
    refine ⟨_,_,hrun,_,rfl,⟨hyl,.inr ⟨w.heap.size,_,_,rfl,hbase,heap_alloc_new w.drew _,hge,hcm2,?_,?_⟩⟩,⟨rfl,rfl,rfl,by simp,fun k hk _=>heap_alloc_old w.drew _ hk⟩⟩
    · simp only [Array.size_append,List.size_toArray,size_zeroCells,T.hzs,hyl,hs,List.length_nil,Nat.zero_add,← Nat.add_mul]
      congr 1
      exact Nat.add_sub_cancel' hge
    · simp only [Array.toList_append,← hyl]
      exact List.take_left
end
section
variable {P : Program} {B : Nat} {w0 : World} {gh : List Value}
theorem grown_none {w w' : World} (h : w.grownBy w' none) (o : Option Nat) : w.grownBy w' o:=⟨h.1,h.2,h.3,h.4,fun k hk _=>h.5 k hk (by simp)⟩
theorem RelS.renewW {σ : St} {ρ : Nat→Value} {a : Act} {w : World} (hr : RelS B w0 gh ρ σ a w) {i : Nat} {e0 : TypeId} {sz : Nat} {els els' : List (List TV)} (hi : hf σ.h i = .row e0 sz els) {A A' A2 : Option Addr} {c c' kk : Nat} {css css' : List (List Value)} {w' : World} (r1 : ρ i = .slice A els.length c) (r2 : w.ownsRow B e0 sz (.slice A els.length c) els.length css.flatten)
    (hown : w'.ownsRow B e0 sz (.slice A' els'.length c') els'.length css'.flatten) (hgr : w.grownBy w' (Value.ownBlock (.slice A els.length c))) (hor : Value.ownBlock (.slice A' els'.length c') = Value.ownBlock (.slice A els.length c)∨Value.ownBlock (.slice A' els'.length c') = some w.heap.size)
    (r3 : ∀ y ∈ css',y.length = sz) (r4 : DnLL (cxOf B ρ (hf σ.h) w) els' css') (hk : kk ≤ els'.length) (hw : WinA A' A2 kk c' sz) (dst : Option Tmp) :
    RelS B w0 gh (updf ρ i (.slice A' els'.length c')) ⟨match dst with | some d=>(kpL (bar i) σ.s).set d (.win i kk sz) | none=>kpL (bar i) σ.s,(σ.h.map (LB.kp (bar i))).set i (.row e0 sz (kpLL (bar i) els')),kpL (bar i) σ.g⟩ (a.put dst (.slice A2 (els'.length - kk) (c' - kk))) w':=by
  have R:=hr.rel
  have hhere : (hf σ.h i).here:=by rw [hi]; trivial
  have hblk : blkOf (ρ i) = Value.ownBlock (.slice A els.length c):=by rw [r1]; cases A <;> rfl
  have hown' : blkOf (.slice A' els'.length c') = Value.ownBlock (.slice A' els'.length c'):=by cases A' <;> rfl
  have hBn : ∀ g,blkOf (ρ i) = some g→B ≤ g:=fun g hgg=>by
    rw [hblk] at hgg
    exact (r2.lt g hgg).1
  have hr' : ∀ g,blkOf (.slice A' els'.length c') = some g→g < w'.heap.size∧(blkOf (ρ i) = some g∨w.heap.size ≤ g):=fun g hgg=>by
    rw [hown'] at hgg
    refine ⟨(hown.lt g hgg).2,?_⟩
    rw [hblk]
    rcases hor with h1 | h1
    · exact .inl (h1 ▸ hgg)
    · rw [h1] at hgg
      injection hgg with hgg
      exact .inr (by omega)
  have hgr' : w.grownBy w' (blkOf (ρ i)):=by rw [hblk]; exact hgr
  have hil : i < σ.h.length:=hf_lt hi (by simp)
  have KK : Keeps ((cxOf B ρ (hf σ.h) w).less (bar i)) (cxOf B (updf ρ i (.slice A' els'.length c')) (updf (fun j=>(hf σ.h j).kp (bar i)) i (.row e0 sz (kpLL (bar i) els'))) w'):=.renew hhere hgr' (fun g hgg=>(hr' g hgg).2)
  refine ⟨?_,?_,?_,by rw [put_defers]; exact hr.defers⟩
  · simp only [hf_map_set hil]
    refine put_dn (DnL.keep KK _ _ (DnL.kp (bar i) _ _ hr.slots)) ?_
    simp only [Dn]
    refine ⟨?_,A',els'.length,c',?_,hk,A2,rfl,hw⟩
    · show LB.here (updf _ i _ i)
      rw [updf_same]; trivial
    · show updf ρ i _ i = _
      rw [updf_same]
  · simp only [hf_map_set hil]
    exact DnL.keep KK _ _ (DnL.kp (bar i) _ _ hr.ghost)
  · simp only [hf_map_set hil]
    refine R.renew hhere hgr' hBn hr' (fun t cs e=>by cases e) (fun e sz els2 e'=>?_)
    injection e' with e2 e3 e4
    subst e2 e3 e4
    refine ⟨A',c',css',by simp [kpLL_len],?_,r3,DnLL.keep KK _ _ (DnLL.kp (bar i) _ _ r4)⟩
    have : (kpLL (bar i) els').length = els'.length:=by simp [kpLL_len]
    rw [this]
    exact hown
def anyE (q sz : Nat) : List (List TV):=List.replicate q (List.replicate sz .any)
theorem anyE_len (q sz : Nat) : (anyE q sz).length = q:=by simp [anyE]
theorem dnL_any (C : Cx) : ∀ (n : Nat) (us : List Value),us.length = n→DnL C (List.replicate n .any) us
  | 0,us,h=>by simp only [List.replicate,DnL]; exact List.eq_nil_of_length_eq_zero h
  | n + 1,[],h=>by simp at h
  | n + 1,u :: us,h=>by
    simp only [List.replicate_succ,DnL]
    exact ⟨u,us,rfl,by simp [Dn],dnL_any C n us (by simpa using h)⟩
theorem dnLL_any (C : Cx) (sz : Nat) : ∀ (css : List (List Value)),(∀ x ∈ css,x.length = sz)→DnLL C (anyE css.length sz) css
  | [],_=>by simp [anyE,DnLL]
  | x :: css,h=>by
    have:=dnLL_any C sz css (fun y hy=>h y (by simp [hy]))
    simp only [anyE,List.length_cons,List.replicate_succ,DnLL] at this ⊢
    exact ⟨x,css,rfl,dnL_any C sz x (h x (by simp)),this⟩
theorem flatW_drop (sz : Nat) : ∀ (css : List (List Value)) (k : Nat),(∀ x ∈ css,x.length = sz)→css.flatten.drop (k * sz) = (css.drop k).flatten
  | [],k,_=>by simp
  | x :: css,0,_=>by simp
  | x :: css,k + 1,h=>by
    rw [List.drop_succ_cons,List.flatten_cons,Nat.succ_mul,Nat.add_comm,← List.drop_drop,List.drop_left' (h x (by simp)),flatW_drop sz css k fun y hy=>h y (by simp [hy])]
theorem TL.appWin {Q : Exit→St→Prop} {ops : Array Oper} {o : Oper} {rest : List Oper} {σ : St} {cl : Call} {s x : Operand} {t : TypeId} {i p : Nat} {els ys : List (List TV)} {ti te : TI} (hg : o.guard = none) (ho : o.op = .call cl) (hcl : cl = { callee:=.builtin .append,args:=#[s,x],argTypes:=#[t,t] })
    (T : ApTy P t ti te) (hs : tev σ.s s = .win i p te.n) (hi : hf σ.h i = .row ti.el te.n els) (hx : Elems σ x ys) (h0 : 0 < ys.length) (hlen : ∀ c ∈ ys,c.length = te.n) (hone : ∀ c ∈ ys,c.all TV.one = true) (hbd : (els.length + ys.length) * te.by_ ≤ 140737488355328)
    (h : ∀ q,q ≤ p→TL P B w0 gh ops rest ⟨match o.dst with | some d=>(kpL (bar i) σ.s).set d (.win i q te.n) | none=>kpL (bar i) σ.s,(σ.h.map (LB.kp (bar i))).set i (.row ti.el te.n (kpLL (bar i) (anyE q te.n ++ (els.drop p ++ ys)))),kpL (bar i) σ.g⟩ Q) : TL P B w0 gh ops (o :: rest) σ Q:=fun ρ a w hr=>by
  have R:=hr.rel
  have e1:=tev_dn hr.slots s
  rw [hs] at e1
  simp only [Dn] at e1
  obtain ⟨A,c,css,r1,r2,r3,r4⟩:=R.row i _ _ _ hi
  obtain ⟨_,A0,n,c0,q1,hp,A',hu,hw⟩:=e1
  have q1 : ρ i = .slice A0 n c0:=q1
  rw [r1] at q1
  injection q1 with q2 q3 q4
  subst q2 q3 q4
  rw [r1] at r2
  obtain ⟨A2,c2,css2,s1,s2,s3,s4⟩:=elems_sees hr hx hlen T.hn
  have h1:=elems_one R s3 hone
  obtain ⟨z,E⟩:=T.elem
  have had : ∃ ad,A2 = some ad:=by
    rcases A2 with _ | ad
    · have:=s2.2.1 rfl; omega
    · exact ⟨ad,rfl⟩
  obtain ⟨ad,rfl⟩:=had
  have hcl2 : css2.length = ys.length:=s3.len
  have hcl1 : css.length = els.length:=r4.len
  have fl : ∀ (a b : List (List Value)),(a ++ b).flatten = a.flatten ++ b.flatten:=fun a b=>List.flatten_append
  have hbar : ∀ q,(anyE q te.n ++ (els.drop p ++ ys)).length = q + (els.length - p) + ys.length:=fun q=>by simp [anyE_len]; omega
  rcases Nat.lt_or_ge p c with hpc | hpc
  · obtain ⟨ad0,k1,k2⟩:=hw hpc
    subst k1
    subst k2
    have hz0 : ad0 = ⟨ad0.block,0,none⟩:=by
      rcases r2.2 with ⟨hv,_⟩ | ⟨g,cap,cur,hv,_⟩
      · cases hv
      · injection hv with hv _ _
        injection hv with hv
        rw [hv]
    rw [hz0] at r1 r2
    have hu : a.eval s = .slice (some ⟨ad0.block,p * te.n,none⟩) (els.length - p) (c - p):=by
      rw [hu]
      have : ad0.off = 0:=by rw [hz0]
      rw [this,Nat.zero_add]
    obtain ⟨V,w',hrun,hor⟩:=run_append_win E o.type (d:=c2) r2 s2 h1 hp hbd R.size
    refine wpList_plain hg fun K hK=>?_
    unfold Oper.wp execOp
    simp only [ho,hcl,resolve,invoke,builtin,Sem.run_bind,Sem.run_pure,Result.andThen_ok,List.map_toArray,List.map_cons,List.map_nil,hu,s1,hrun]
    refine hK _ _ ?_
    rcases hor with ⟨hV,hown,hgr⟩ | ⟨c',hV,hown,hgr⟩
    · have hlen':=hbar p
      have : p + (els.length - p) + ys.length = els.length + ys.length:=by omega
      rw [this] at hlen'
      have hn:=hr.renewW (A2:=some ⟨ad0.block,p * te.n,none⟩) (kk:=p) (els':=anyE p te.n ++ (els.drop p ++ ys)) (css':=css ++ css2) (A':=some ⟨ad0.block,0,none⟩) (c':=c) hi r1 r2 (by rw [hlen',fl]; exact hown) hgr (.inl rfl) (fun y hy=>by
        rcases List.mem_append.1 hy with hy | hy
        · exact r3 y hy
        · exact s4 y hy) (by
        have ha:=dnLL_any (cxOf B ρ (hf σ.h) w) te.n (css.take p) (fun x hx=>r3 x (List.mem_of_mem_take hx))
        rw [List.length_take,hcl1,Nat.min_eq_left hp] at ha
        have:=ha.append ((r4.drop p).append s3)
        rwa [← List.append_assoc (css.take p),List.take_append_drop] at this) (by rw [hlen']; omega) (fun _=>⟨_,rfl,by simp⟩) o.dst
      rw [hlen'] at hn
      rw [hV]
      exact h p (Nat.le_refl _) _ _ _ hn
    · have hlen':=hbar 0
      have hn:=hr.renewW (A2:=some ⟨w.heap.size,0,none⟩) (kk:=0) (els':=anyE 0 te.n ++ (els.drop p ++ ys)) (css':=css.drop p ++ css2) (A':=some ⟨w.heap.size,0,none⟩) (c':=c') hi r1 r2 (by rw [hlen',fl,← flatW_drop te.n css p r3,Nat.zero_add]; rw [hV] at hown; exact hown) (grown_none hgr _) (.inr rfl) (fun y hy=>by
        rcases List.mem_append.1 hy with hy | hy
        · exact r3 y (List.mem_of_mem_drop hy)
        · exact s4 y hy) (by
        simp only [anyE,List.replicate_zero,List.nil_append]
        exact (r4.drop p).append s3) (by omega) (fun _=>⟨_,rfl,by simp⟩) o.dst
      rw [hlen',Nat.zero_add,Nat.sub_zero,Nat.sub_zero] at hn
      rw [hV]
      exact h 0 (Nat.zero_le _) _ _ _ hn
  · have hnc : els.length ≤ c:=by
      rcases r2.2 with ⟨hv,h00⟩ | ⟨g,cap,cur,hv,_,_,hnc,_⟩
      · omega
      · injection hv with _ _ hv; omega
    have hpe : p = els.length:=by omega
    have hcp : c - p = 0:=by omega
    have hu : a.eval s = .slice A' 0 0:=by rw [hu,hcp,hpe,Nat.sub_self]
    obtain ⟨V,w',hrun,c',hV,hown,hgr⟩:=run_append_void E (A':=A') o.type (d:=c2) s2 h1 h0 (Nat.le_trans (Nat.mul_le_mul_right _ (by omega)) hbd) R.size
    refine wpList_plain hg fun K hK=>?_
    unfold Oper.wp execOp
    simp only [ho,hcl,resolve,invoke,builtin,Sem.run_bind,Sem.run_pure,Result.andThen_ok,List.map_toArray,List.map_cons,List.map_nil,hu,s1,hrun]
    refine hK _ _ ?_
    have hdr : els.drop p = []:=by rw [hpe,List.drop_length]
    have hlen' : (anyE 0 te.n ++ (els.drop p ++ ys)).length = ys.length:=by simp [anyE,hdr]
    have hn:=hr.renewW (A2:=some ⟨w.heap.size,0,none⟩) (kk:=0) (els':=anyE 0 te.n ++ (els.drop p ++ ys)) (css':=css2) (A':=some ⟨w.heap.size,0,none⟩) (c':=c') hi r1 r2 (by rw [hlen']; rw [hV] at hown; exact hown) (grown_none hgr _) (.inr rfl) s4 (by
      simp only [anyE,List.replicate_zero,List.nil_append,hdr]
      exact s3) (by omega) (fun _=>⟨_,rfl,by simp⟩) o.dst
    rw [hlen',Nat.sub_zero,Nat.sub_zero] at hn
    rw [hV]
    exact h 0 (Nat.zero_le _) _ _ _ hn
section
variable {h : List LB} {s : List TV} {o : Oper}
theorem win_form {ρ : Nat→Value} {h' : Nat→LB} {w : World} (R : Rel B w0 ρ h' w) {i p sz sz' : Nat} {e : TypeId} {els : List (List TV)} (hi : h' i = .row e sz els) {u : Value} (hd : Dn (cxOf B ρ h' w) (.win i p sz') u) :
    ∃ A' c,u = .slice A' (els.length - p) (c - p)∧p ≤ els.length∧els.length ≤ c∧(p < c→∃ g,ρ i = .slice (some ⟨g,0,none⟩) els.length c∧A' = some ⟨g,p * sz',none⟩)∧∃ A,ρ i = .slice A els.length c∧WinA A A' p c sz':=by
  obtain ⟨A,c,css,r1,r2,r3,r4⟩:=R.row i _ _ _ hi
  simp only [Dn] at hd
  obtain ⟨hp,A0,n,c0,q1,hk,A',hu,hw⟩:=hd
  have q1 : ρ i = .slice A0 n c0:=q1
  have q0:=q1
  rw [r1] at q1
  injection q1 with q2 q3 q4
  subst q2 q3 q4
  rw [r1] at r2
  have hnc : els.length ≤ c∧(A = none→c = 0)∧∀ ad,A = some ad→∃ g,ad = ⟨g,0,none⟩:=by
    rcases r2.2 with ⟨hv,h00⟩ | ⟨g,cap,cur,hv,_,_,hnc,_⟩
    · injection hv with h1 _ h2
      subst h1 h2
      exact ⟨by omega,fun _=>rfl,fun ad h=>(by cases h)⟩
    · injection hv with h1 _ h2
      subst h1 h2
      exact ⟨hnc,fun h=>(by cases h),fun ad h=>⟨g,by injection h with h; exact h.symm⟩⟩
  refine ⟨A',c,hu,hk,hnc.1,fun hpc=>?_,A,q0,hw⟩
  obtain ⟨ad,h1,h2⟩:=hw hpc
  obtain ⟨g,h3⟩:=hnc.2.2 ad h1
  subst h1
  subst h3
  exact ⟨g,q0,by rw [h2]; simp⟩
theorem S_len_win {t : TypeId} {x : Operand} {i p sz sz' : Nat} {e : TypeId} {els : List (List TV)} {ti : TI} {cl : Call} (ho : o.op = .call cl) (hc : cl = { callee:=.builtin .len,args:=#[x],argTypes:=#[t] }) (ht : tiOf P t = some ti) (hk : ti.k = 3)
    (hx : tev s x = .win i p sz') (hi : hf h i = .row e sz els) : TStep P B w0 h s o (.v (.int .i64 ((els.length - p : Nat) : Int))) none:=.same fun ρ h' w a H R hh=>by
  subst hc
  have h1:=hh x (by simp [ho,Op.operands,Call.operands])
  rw [hx] at h1
  have hp : h' i = .row e sz els:=H.same hi (by simp) (by simp only [Dn] at h1; exact h1.1)
  obtain ⟨A',c,hA,_⟩:=win_form R hp h1
  exact ⟨goInt (els.length - p : Nat),by simp [execOp,ho,resolve,invoke,builtin,hA,len_run ht hk],by simp [Dn,goInt]⟩
theorem S_index_win {t e : TypeId} {x y : Operand} {i p sz : Nat} {els : List (List TV)} {k : IntKind} {m : Int} {j : Nat} {ti te : TI} (ho : o.op = .indexAddr t x y) (hx : tev s x = .win i p sz) (hi : hf h i = .row e sz els) (hy : tev s y = .v (.int k m)) (ht : tiOf P t = some ti) (hk : ti.k = 3) (he : tiOf P ti.el = some te)
    (hsz : te.n = sz) (hm : m = (j : Int)) (hj : p + j < els.length) : TStep P B w0 h s o (.ptr i ((p + j) * sz)) none:=.same fun ρ h' w a H R hh=>by
  have h1:=hh x (by simp [ho,Op.operands])
  have h2:=hh y (by simp [ho,Op.operands])
  rw [hx] at h1
  rw [hy] at h2
  have hpr : (h' i).here:=by simp only [Dn] at h1; exact h1.1
  have hp : h' i = .row e sz els:=H.same hi (by simp) hpr
  obtain ⟨A',c,hA,hk1,hk2,hk3,_⟩:=win_form R hp h1
  obtain ⟨g,h3,h4⟩:=hk3 (by omega)
  simp only [Dn] at h2
  subst hm
  subst h4
  have hjj : j < els.length - p:=by omega
  refine ⟨.pointer (some ((⟨g,p * sz,none⟩ : Addr).add (j * te.n))),?_,?_⟩
  · simp [execOp,ho,h2,hA,Instr.indexAt,asInt_run,run_underlying (ti_slice ht hk),ti_size he,hjj]
  · simp only [Dn]
    refine ⟨hpr,g,by show blkOf (ρ i) = some g; rw [h3]; rfl,?_⟩
    rw [hsz,Nat.add_mul,Addr.add_lit]
theorem S_slice_win {t e : TypeId} {x y : Operand} {i p sz l : Nat} {els : List (List TV)} {k : IntKind} {ti te : TI} (ho : o.op = .slice t x (some y) none none) (hx : tev s x = .win i p sz) (hi : hf h i = .row e sz els) (hy : tev s y = .v (.int k (l : Int))) (ht : tiOf P t = some ti) (hk : ti.k = 3) (he : tiOf P ti.el = some te)
    (hsz : te.n = sz) (hl : p + l ≤ els.length) : TStep P B w0 h s o (.win i (p + l) sz) none:=.same fun ρ h' w a H R hh=>by
  have h1:=hh x (by simp [ho,Op.operands])
  have h2:=hh y (by simp [ho,Op.operands])
  rw [hx] at h1
  rw [hy] at h2
  have hpr : (h' i).here:=by simp only [Dn] at h1; exact h1.1
  have hp : h' i = .row e sz els:=H.same hi (by simp) hpr
  obtain ⟨A',c,hA,hk1,hk2,hk3,A,hr,hw⟩:=win_form R hp h1
  simp only [Dn] at h2
  have hll : l ≤ els.length - p:=by omega
  have hlm : l ≤ c - p:=by omega
  refine ⟨.slice (if c - p = l then A' else A'.map (·.add (l * te.n))) (els.length - p - l) (c - p - l),?_,?_⟩
  · simp [execOp,ho,h2,hA,Instr.sliceAt,Instr.slice,Instr.sliceBounds,Instr.sliceBound,asInt_run,run_underlying (ti_slice ht hk),ti_size he,hll,hlm]
  · simp only [Dn]
    refine ⟨hpr,A,els.length,c,hr,hl,_,by rw [Nat.sub_sub,Nat.sub_sub],fun hpc=>?_⟩
    obtain ⟨ad,h3,h4⟩:=hw (by omega)
    obtain ⟨g,h5,h6⟩:=hk3 (by omega)
    rw [hr] at h5
    injection h5 with h5
    subst h5
    refine ⟨_,rfl,?_⟩
    rw [if_neg (by omega),h6,Option.map_some,hsz,Addr.add_lit,Nat.add_mul,Nat.zero_add]
end
end
end Go.Proofs.YtpgfhkbnngjegaaGreatDoor
