/- Functions that take a local row and hand it back with an element more, or less. No condition. -/
import Derived.Test.YtpgfhkbnngjegaaGreatDoorBase
import Derived.Shelf.RegionOpenPlain
import Derived.Lib.SliceRun
import Derived.Lib.Overlaps
import Derived.Lib.AppendZerosOnto
import Derived.Laws.CopyRow
import Derived.Laws.NewBlocks
import Derived.Laws.Externs
import Derived.Test.YtpgfhkbnngjegaaGreatDoorU6
namespace Go.Proofs.YtpgfhkbnngjegaaGreatDoor
open Go.RowKit
set_option linter.unusedVariables false
set_option linter.unusedSimpArgs false
theorem wp_copy_runI {P : Program} (w : World) {o : Oper} {a : Act} {K : Act→World→Prop} {Q : Exit→Act→World→Prop} (d s : Operand) (t t' : TypeId)
  (ho : o.op = .call { callee:=.builtin .copy,args:=#[d,s],argTypes:=#[t,t'] }) (v u : Value) (hd : a.eval d = v) (hs : a.eval s = u) {v' : Value} {w' : World}
  (hr : (Builtin.copy_ #[t,t'] o.type #[v,u]).run P w = .ok v' w') (h : K (a.put o.dst v') w') : o.wp P a w K Q:=by
 unfold Oper.wp execOp
 simp only [ho,resolve,invoke,builtin,Sem.run_bind,Sem.run_pure,Result.andThen_ok,List.map_toArray,List.map_cons,List.map_nil,hd,hs,hr]
 exact h
theorem wpList_copy_runI {P : Program} (w : World) {ops : Array Oper} {rest : List Oper} {o : Oper} {a : Act} {Q : Exit→Act→World→Prop} (hgd : o.guard = none) (d s : Operand) (t t' : TypeId)
  (ho : o.op = .call { callee:=.builtin .copy,args:=#[d,s],argTypes:=#[t,t'] }) (v u : Value) (hd : a.eval d = v) (hs : a.eval s = u) {v' : Value} {w' : World}
  (hr : (Builtin.copy_ #[t,t'] o.type #[v,u]).run P w = .ok v' w') (h : wpList P ops Q rest (a.put o.dst v') w') : wpList P ops Q (o :: rest) a w:=
 wpList_plain hgd fun _ hK=>wp_copy_runI w d s t t' ho v u hd hs hr (hK _ _ h)
theorem step_copy_runI {P : Program} {ops : Array Oper} {o : Oper} {a : Act} {w : World} {K : Act→World→Prop} {Q : Exit→Act→World→Prop} {E : Prop}
  (hg : o.guard = none) (d x : Operand) (dT sT : TypeId) (hop : o.op = Op.call { callee:=Callee.builtin Builtin.copy,args:=#[d,x],argTypes:=#[dT,sT] })
  (v u : Value) (hd : a.eval d = v) (hx : a.eval x = u) {v' : Value} {w' : World} (hr : (Builtin.copy_ #[dT,sT] o.type #[v,u]).run P w = .ok v' w') (hK : K (a.put o.dst v') w') :
  if Region.wanted o (yielded ops a.tmps) = true then Oper.wp P o a w K Q else E:=by
 have hw : Region.wanted o (yielded ops a.tmps) = true:=by simp [Region.wanted,hg]
 rw [if_pos hw]
 unfold Oper.wp
 simp [execOp,hop,resolve,invoke,builtin,hd,hx,hr,Result.andThen]
 exact hK
theorem run_copy_rowN {P : Program} (w : World) (dT sT ty elem : TypeId) (sz m g o dLen dCap : Nat) (a : Addr) (sLen sCap : Nat) (cur : Array Value) (t : TypeId) (cs : List Value)
  (hu : P.underlying dT = some (.slice elem)) (hs : (P.info? elem).map (·.size) = some sz) (hm : Nat.min sLen dLen = m)
  (hg : w.heap[g]? = some (.cells cur t (0,0))) (hn : cs.length = m * sz)
  (hsrc : ∀ j v,cs[j]? = some v→w.cell? (a.add j) = some v) (hfit : o + cs.length ≤ cur.size) (h1 : ∀ v ∈ cs,v.oneCell' = true) :
  (Builtin.copy_ #[dT,sT] ty #[.slice (some ⟨g,o,none⟩) dLen dCap,.slice (some a) sLen sCap]).run P w =
   .ok (goInt m) (w.setRow g (cur.toList.take o ++ cs ++ cur.toList.drop (o + cs.length)).toArray):=by
 have hl:=run_loadCells_list (P:=P) w a cs hsrc
 have hst:=run_storeCells_at P g o t cs 0 cur w hg (by simpa using hfit) h1
 cases hq : P.info? elem with
 | none=>simp [hq] at hs
 | some i=>
  have hi : i.size = sz:=by simpa [hq] using hs
  simp [Builtin.copy_,run_underlying hu,Builtin.lenOf,Builtin.firstCells,sizeOf,typeInfo,hq,hi,hm,← hn,hl,hst]
theorem ins_room {α : Type} (cur xs vs : List α) (p q s : Nat) (hp : p ≤ q) (hx : cur.take q = xs) (hv : vs.length = s) (hc : q + s ≤ cur.length) :
  ((cur.take (p + s) ++ xs.drop p ++ cur.drop (p + s + (q - p))).take p ++ vs ++ (cur.take (p + s) ++ xs.drop p ++ cur.drop (p + s + (q - p))).drop (p + s)).take (q + s) = xs.take p ++ vs ++ xs.drop p:=by
 have hxl : xs.length = q:=by rw [← hx,List.length_take]; omega
 have h1 : (cur.take (p + s) ++ xs.drop p ++ cur.drop (p + s + (q - p))).take p = xs.take p:=by
  rw [List.append_assoc,List.take_append_of_le_length (by rw [List.length_take]; omega),List.take_take,← hx,List.take_take]
  congr 1
  omega
 have h2 : (cur.take (p + s) ++ xs.drop p ++ cur.drop (p + s + (q - p))).drop (p + s) = xs.drop p ++ cur.drop (p + s + (q - p)):=by
  rw [List.append_assoc,List.drop_append_of_le_length (by rw [List.length_take]; omega),List.drop_eq_nil_of_le (by rw [List.length_take]; omega),List.nil_append]
 rw [h1,h2,← List.append_assoc,List.take_append_of_le_length (by simp; omega),List.take_of_length_le (by simp; omega)]
theorem ins_new {α : Type} (z xs vs : List α) (p q s : Nat) (hp : p ≤ q) (hx : xs.length = q) (hv : vs.length = s) (hz : p + z.length ≥ q + s) :
  (((xs.take p ++ z).take p ++ vs ++ (xs.take p ++ z).drop (p + s)).take (p + s) ++ xs.drop p ++ ((xs.take p ++ z).take p ++ vs ++ (xs.take p ++ z).drop (p + s)).drop (p + s + (q - p))).take (q + s) = xs.take p ++ vs ++ xs.drop p:=by
 have h1 : (xs.take p ++ z).take p = xs.take p:=by
  rw [List.take_append_of_le_length (by rw [List.length_take]; omega),List.take_take]; congr 1; omega
 have h2 : ∀ r : List α,(xs.take p ++ vs ++ r).take (p + s) = xs.take p ++ vs:=fun r=>by
  rw [List.take_append_of_le_length (by simp; omega),List.take_of_length_le (by simp; omega)]
 rw [h1,h2,List.take_append_of_le_length (by simp; omega),List.take_of_length_le (by simp; omega)]
theorem own_setRow {w : World} {base e size g n cap : Nat} {cur : Array Value} {xs : List Value} (hlt : g < w.heap.size) (hb : base ≤ g) (hn : n ≤ cap) (hc : cap ≤ maxLen) (hs : cur.size = cap * size) (hx : cur.toList.take (n * size) = xs) (hl : xs.length = n * size) {c0 : Array Value}
  (hg : w.heap[g]? = some (.cells c0 e (0,0))) : (w.setRow g cur).ownsRow base e size (.slice (some ⟨g,0,none⟩) n cap) n xs:=
 ⟨hl,.inr ⟨g,cap,cur,rfl,hb,setRow_heap w g c0 cur e (0,0) hg,hn,hc,hs,hx⟩⟩
theorem grown_setRow (w : World) (g : Nat) (cur : Array Value) : w.grownBy (w.setRow g cur) (some g):=
 ⟨rfl,rfl,rfl,by simp [World.setRow],fun k hk hne=>setRow_other w g k _ (fun e=>hne (by simp [e]))⟩
theorem grown_setRowD (w : World) (g : Nat) (cur : Array Value) : w.grownBy (w.drew.setRow g cur) (some g):=
 ⟨rfl,rfl,rfl,by simp [World.setRow],fun k hk hne=>(setRow_other w.drew g k _ (fun e=>hne (by simp [e])))⟩
set_option maxHeartbeats 4000000 in
set_option maxRecDepth 100000 in
theorem ins_end_tbl (base : Nat) (A : Option Addr) (n c vb vc : Nat) (xs vs : List Value) (w : World) (ho : w.ownsRow base 25 3 (.slice A n c) n xs) (hv : w.ownsRow base 25 3 (.slice (some ⟨vb,0,none⟩) 1 vc) 1 vs) (hn : n ≤ 100000) (h1v : ∀ v ∈ vs,v.oneCell' = true) (hb : base ≤ w.heap.size) :
  Calls Tryz.prog 84 #[.slice A n c,.int .i64 n,.slice (some ⟨vb,0,none⟩) 1 vc] w fun e w'=>∃ A' c',e = .returned (.slice A' (n + 1) c')∧w'.ownsRow base 25 3 (.slice A' (n + 1) c') (n + 1) (xs ++ vs)∧w.grownBy w' (Value.ownBlock (.slice A n c)) ∧
   (Value.ownBlock (.slice A' (n + 1) c') = Value.ownBlock (.slice A n c)∨Value.ownBlock (.slice A' (n + 1) c') = some w.heap.size):=by
 have hS:=Sees.of_own hv
 have T0 : ElemTy Tryz.prog 48 25 (.agg #[.string ⟨#[]⟩,.slice none 0 0,.slice none 0 0]) 3 64:=⟨Tryz.underlying48,by kernel_rfl,rfl,by omega,by omega⟩
 have hnc:=(own_cap ho).1
 have hcm:=(own_cap ho).2
 unfold maxLen at hcm
 rcases Nat.eq_or_lt_of_le hnc with hcn | hcn
 ·subst hcn
  go_enter Tryz.func84,Tryz.ntmps84
  go_wp2_with (at_builtin; refine Door.enter ?_)
  refine Door.leave (wl_append T0 ho hS rfl rfl h1v (by omega) hb rfl rfl rfl rfl ?_)
  intro A' c' w' h2 h3 h4 h5
  go_wp2
  go_ret
  exact ⟨A',c',rfl,h2,h4,h5⟩
 ·obtain ⟨ad,rfl⟩ : ∃ ad,A = some ad:=by
   rcases ho.2 with ⟨hv,_⟩ | ⟨g,cap,cur,hv,_⟩
   ·injection hv with _ _ h3; omega
   ·injection hv with h1; exact ⟨_,h1⟩
  go_enter Tryz.func84,Tryz.ntmps84
  go_wp2_with (at_builtin; refine Door.enter ?_)
  refine Door.leave (wl_append T0 ho hS rfl rfl h1v (by omega) hb rfl rfl rfl rfl ?_)
  intro A' c' w' h2 h3 h4 h5
  go_wp2
  go_ret
  exact ⟨A',c',rfl,h2,h4,h5⟩
set_option maxHeartbeats 4000000 in
set_option maxRecDepth 100000 in
theorem ins_room_tbl (base : Nat) (g n c k vb vc : Nat) (xs vs : List Value) (w : World) (ho : w.ownsRow base 25 3 (.slice (some ⟨g,0,none⟩) n c) n xs) (hv : w.ownsRow base 25 3 (.slice (some ⟨vb,0,none⟩) 1 vc) 1 vs) (hne : vb ≠ g) (hk : k < n) (hn : n ≤ 100000) (hroom : n < c) (h1x : ∀ v ∈ xs,v.oneCell' = true) (h1v : ∀ v ∈ vs,v.oneCell' = true) :
  Calls Tryz.prog 84 #[.slice (some ⟨g,0,none⟩) n c,.int .i64 k,.slice (some ⟨vb,0,none⟩) 1 vc] w fun e w'=>e = .returned (.slice (some ⟨g,0,none⟩) (n + 1) c)∧w'.ownsRow base 25 3 (.slice (some ⟨g,0,none⟩) (n + 1) c) (n + 1) (xs.take (k * 3) ++ vs ++ xs.drop (k * 3))∧w.grownBy w' (some g):=by
 have hS:=(Sees.of_own hv).2.2 ⟨vb,0,none⟩ rfl
 have hX:=(Sees.of_own ho).2.2 ⟨g,0,none⟩ rfl
 have hxl:=ho.1
 have hvl:=hv.1
 have hnc:=(own_cap ho).1
 have hcm:=(own_cap ho).2
 rcases ho.2 with ⟨hv0,_⟩ | ⟨g',cap,cur,hv0,hbg,hg,_,_,hcs,htk⟩
 ·cases hv0
 injection hv0 with h0 _ h2
 injection h0 with h0
 injection h0 with h0
 subst h0 h2
 rcases hv.2 with ⟨hv1,_⟩ | ⟨g',cap,cur2,hv1,hbv,hgv,_,_,hcsv,htv⟩
 ·cases hv1
 injection hv1 with h0 _ h2
 injection h0 with h0
 injection h0 with h0
 subst h0 h2
 have hp4 : k * 3 ≤ n * 3:=Nat.mul_le_mul_right _ (by omega)
 have hc4 : n * 3 + 3 ≤ cur.size:=by rw [hcs]; have:=Nat.mul_le_mul_right 3 (show n + 1 ≤ c by omega); omega
 have hsz : (Tryz.prog.info? 25).map (·.size) = some 3:=by kernel_rfl
 have hszr : ∀ w,(Go.sizeOf 25).run Tryz.prog w = .ok 3 w:=fun w=>by
  cases hq : Tryz.prog.info? 25 with
  | none=>simp [hq] at hsz
  | some i=>
   have hi : i.size = 3:=by simpa [hq] using hsz
   simp [sizeOf,typeInfo,hq,hi]
 have hov : ∀ off lb cb,(callFunc 120 #[.slice (some ⟨vb,0,none⟩) 1 vc,.slice (some ⟨g,off,none⟩) lb cb]).run Tryz.prog w = .ok (.value (.bool false)) w:=fun off lb cb=>by
  rw [run_callFunc_extern Tryz.func120 (by kernel_rfl) (by kernel_rfl) (by kernel_rfl) (e:=Extern.SlicesOverlaps.overlaps #[48,48] #[4]) (by kernel_rfl),
   Lib.run_overlaps_apart w 48 4 25 Tryz.underlying48 3 hszr ⟨vb,0,none⟩ ⟨g,off,none⟩ 1 vc lb cb hne 25 25 cur2.size cur.size (by simp [World.shape?,hgv]) (by simp [World.shape?,hg]) (by omega) (by simp [World.frozen?,hgv]) (by simp [World.frozen?,hgv])]
  rfl
 have hkw : IntKind.i64.wrap ((k : Int) + 1) = (k : Int) + 1:=by rw [IntKind.wrap_i64]; omega
 have hnw : IntKind.i64.wrap ((n : Int) + 1) = (n : Int) + 1:=by rw [IntKind.wrap_i64]; omega
 have hb1 : (0 : Int) ≤ (k : Int) + 1:=by omega
 have htn : ((k : Int) + 1).toNat = k + 1:=by omega
 have hcm':=hcm
 unfold maxLen at hcm'
 have hb2 : ¬ (c = k + 1):=by omega
 have hb3 : ¬ (c = k):=by omega
 have hin : k ≤ n:=by omega
 have hin2 : (k : Int) ≤ (n : Int):=by omega
 have hin3 : (k : Int) ≤ (n : Int) + 1:=by omega
 have hin4 : k ≤ n + 1:=by omega
 have hdl : (xs.drop (k * 3)).length = (n - k) * 3:=by rw [List.length_drop,hxl,Nat.sub_mul]
 obtain ⟨C1,hC1⟩ : ∃ C1,C1 = (cur.toList.take (k * 3 + 3) ++ xs.drop (k * 3) ++ cur.toList.drop (k * 3 + 3 + (xs.drop (k * 3)).length)).toArray:=⟨_,rfl⟩
 have hk1 : (k + 1) * 3 = k * 3 + 3:=Nat.succ_mul ..
 have hnk : (n - k) * 3 = n * 3 - k * 3:=Nat.sub_mul ..
 have hC1s : C1.size = cur.size:=by rw [hC1]; simp; omega
 have hcp1 : ∀ ty dc sc,(Builtin.copy_ #[48,48] ty #[.slice (some ⟨g,k * 3 + 3,none⟩) (n - k) dc,.slice (some ⟨g,k * 3,none⟩) (n + 1 - k) sc]).run Tryz.prog w.drew = .ok (goInt ((n - k : Nat) : Int)) (w.drew.setRow g C1):=fun ty dc sc=>by
  rw [hC1]
  exact run_copy_rowN w.drew _ _ ty 25 3 (n - k) g (k * 3 + 3) (n - k) dc ⟨g,k * 3,none⟩ (n + 1 - k) sc cur 25 (xs.drop (k * 3)) Tryz.underlying48 hsz (by simp only [Nat.min_def]; split <;> omega) hg hdl
   (fun j v hj=>by
    rw [List.getElem?_drop] at hj
    have:=hX.2 _ _ hj
    rw [show ((⟨g,k * 3,none⟩ : Addr).add j) = (⟨g,0,none⟩ : Addr).add (k * 3 + j) by rw [Addr.add_lit,Addr.add_lit]; simp]
    exact this) (by omega) (fun v hv=>h1x v (List.mem_of_mem_drop hv))
 have hg1 : (w.drew.setRow g C1).heap[g]? = some (.cells C1 25 (0,0)):=setRow_heap w.drew g cur C1 25 (0,0) hg
 obtain ⟨C2,hC2⟩ : ∃ C2,C2 = (C1.toList.take (k * 3) ++ vs ++ C1.toList.drop (k * 3 + vs.length)).toArray:=⟨_,rfl⟩
 have hvl' : vs.length = 3:=by omega
 have hC2s : C2.size = cur.size:=by rw [hC2]; simp; omega
 have hcp2 : ∀ ty dc,(Builtin.copy_ #[48,48] ty #[.slice (some ⟨g,k * 3,none⟩) (n + 1 - k) dc,.slice (some ⟨vb,0,none⟩) 1 vc]).run Tryz.prog (w.drew.setRow g C1) = .ok (goInt ((1 : Nat) : Int)) ((w.drew.setRow g C1).setRow g C2):=fun ty dc=>by
  rw [hC2]
  exact run_copy_rowN (w.drew.setRow g C1) _ _ ty 25 3 1 g (k * 3) (n + 1 - k) dc ⟨vb,0,none⟩ 1 vc C1 25 vs Tryz.underlying48 hsz (by simp only [Nat.min_def]; split <;> omega) hg1 (by omega)
   (fun j v hj=>by
    have h1:=hS.2 _ _ hj
    have h2 : (w.drew.setRow g C1).heap[vb]? = w.heap[vb]?:=setRow_other w.drew g vb C1 hne
    rw [Addr.add_lit] at h1 ⊢
    simpa [World.cell?,h2] using h1) (by omega) h1v
 have mixed : Tryz.prog.follows Departure.mixedOrders = true:=by kernel_rfl
 have FIN : Hid (C2.toList.take ((n + 1) * 3) = xs.take (k * 3) ++ vs ++ xs.drop (k * 3)∧C2.size = c * 3∧(xs.take (k * 3) ++ vs ++ xs.drop (k * 3)).length = (n + 1) * 3):=by
  refine Lib.hid ⟨?_,by rw [hC2s]; exact hcs,by simp; omega⟩
  have:=ins_room cur.toList xs vs (k * 3) (n * 3) 3 hp4 htk hvl' (by simpa using hc4)
  rw [hC2,hC1,hdl,hnk,hvl',show (n + 1) * 3 = n * 3 + 3 from Nat.succ_mul ..]
  simpa using this
 clear hC1 hC2 hdl hnk hxl hvl htk hcs hC1s hC2s hvl' hX hS htv hcsv hc4 hp4 hszr hsz
 go_enter Tryz.func84,Tryz.ntmps84
 go_wp2_with (simp only [hov])
 go_region_law_o (refine step_copy_runI rfl _ _ 48 48 rfl _ _ (by simp [Act.eval,Act.put]) (by simp [Act.eval,Act.put]) (hcp1 _ _ _) ?_)
 go_wp2_with (at_builtin; refine wpList_copy_runI _ rfl _ _ 48 48 rfl _ _ rfl rfl (hcp2 _ _) ?_)
 go_wp2
 go_ret
 have hgl : g < w.heap.size:=(Array.getElem?_eq_some_iff.1 hg).1
 have hgr : w.grownBy ((w.drew.setRow g C1).setRow g C2) (some g):=grown_trans (grown_setRowD w g C1) (grown_setRow _ g C2)
 exact ⟨rfl,own_setRow (c0:=C1) (by simp [World.setRow]; exact hgl) hbg (by omega) hcm FIN.out.2.1 FIN.out.1 FIN.out.2.2 hg1,hgr⟩
set_option maxHeartbeats 4000000 in
set_option maxRecDepth 100000 in
theorem ins_grow_tbl (base : Nat) (g n k vb vc : Nat) (xs vs : List Value) (w : World) (ho : w.ownsRow base 25 3 (.slice (some ⟨g,0,none⟩) n n) n xs) (hv : w.ownsRow base 25 3 (.slice (some ⟨vb,0,none⟩) 1 vc) 1 vs) (hbase : base ≤ w.heap.size) (hk : k < n) (hn : n ≤ 100000) (h1x : ∀ v ∈ xs,v.oneCell' = true) (h1v : ∀ v ∈ vs,v.oneCell' = true) :
  Calls Tryz.prog 84 #[.slice (some ⟨g,0,none⟩) n n,.int .i64 k,.slice (some ⟨vb,0,none⟩) 1 vc] w fun e w'=>∃ c',e = .returned (.slice (some ⟨w.heap.size,0,none⟩) (n + 1) c')∧w'.ownsRow base 25 3 (.slice (some ⟨w.heap.size,0,none⟩) (n + 1) c') (n + 1) (xs.take (k * 3) ++ vs ++ xs.drop (k * 3))∧w.grownBy w' (some g):=by
 have hS:=(Sees.of_own hv).2.2 ⟨vb,0,none⟩ rfl
 have hX:=(Sees.of_own ho).2.2 ⟨g,0,none⟩ rfl
 have hxl:=ho.1
 have hvl:=hv.1
 have hgl : g < w.heap.size:=(ho.lt g rfl).2
 have hvb : vb < w.heap.size:=(hv.lt vb rfl).2
 have hp4 : k * 3 ≤ n * 3:=Nat.mul_le_mul_right _ (by omega)
 have hsz : (Tryz.prog.info? 25).map (·.size) = some 3:=by kernel_rfl
 have T0 : ElemTy Tryz.prog 48 25 (.agg #[.string ⟨#[]⟩,.slice none 0 0,.slice none 0 0]) 3 64:=⟨Tryz.underlying48,by kernel_rfl,rfl,by omega,by omega⟩
 obtain ⟨i0,hi0,hz0,hzs,hzb⟩:=info_parts T0.hi
 have hkw : IntKind.i64.wrap ((k : Int) + 1) = (k : Int) + 1:=by rw [IntKind.wrap_i64]; omega
 have hnw : IntKind.i64.wrap ((n : Int) + 1) = (n : Int) + 1:=by rw [IntKind.wrap_i64]; omega
 have hnk2 : IntKind.i64.wrap ((n : Int) + 1 - (k : Int)) = (n : Int) + 1 - (k : Int):=by rw [IntKind.wrap_i64]; omega
 have hb1 : (0 : Int) ≤ (k : Int) + 1:=by omega
 have htn : ((k : Int) + 1).toNat = k + 1:=by omega
 have hb2 : ¬ (n = k):=by omega
 have hin : k ≤ n:=by omega
 have hin2 : (k : Int) ≤ (n : Int):=by omega
 have hin3 : (k : Int) ≤ (n : Int) + 1:=by omega
 have hin4 : k ≤ n + 1:=by omega
 have hdl : (xs.drop (k * 3)).length = (n - k) * 3:=by rw [List.length_drop,hxl,Nat.sub_mul]
 have hk1 : (k + 1) * 3 = k * 3 + 3:=Nat.succ_mul ..
 have hnk : (n - k) * 3 = n * 3 - k * 3:=Nat.sub_mul ..
 have hn1 : (n + 1) * 3 = n * 3 + 3:=Nat.succ_mul ..
 have hvl' : vs.length = 3:=by omega
 have hik : k + (n + 1 - k) = n + 1:=by omega
 have hkk : (n : Int) + 1 - (k : Int) = ((n + 1 - k : Nat) : Int):=by omega
 have hold : (Builtin.firstCells i0.size k (.slice (some ⟨g,0,none⟩) k n)).run Tryz.prog w.drew = .ok (xs.take (k * 3)).toArray w.drew:=by
  rw [hzs]
  exact run_firstCells_some w.drew 3 k ⟨g,0,none⟩ k n (xs.take (k * 3)) (by rw [List.length_take]; omega) (fun j v hj=>by
   rw [List.getElem?_take] at hj
   split at hj
   ·exact hX.2 j v hj
   ·cases hj)
 obtain ⟨G,hG⟩ : ∃ G,G = grownCap w (n + 1) n 25:=⟨_,rfl⟩
 obtain ⟨ZS,hZS⟩ : ∃ ZS : List Value,ZS = (Builtin.zeroCells ((.agg #[.string ⟨#[]⟩,.slice none 0 0,.slice none 0 0]) : Value).cells (n + 1 - k)).toList ++ (Builtin.zeroCells ((.agg #[.string ⟨#[]⟩,.slice none 0 0,.slice none 0 0]) : Value).cells (G - (n + 1))).toList:=⟨_,rfl⟩
 have hGn : n + 1 ≤ G:=by rw [hG]; exact grownCap_ge w _ _ _
 have hGm : G ≤ maxLen:=by rw [hG]; exact grownCap_le_maxLen w (n + 1) n 25 (by unfold maxLen; omega)
 have hzc : ∀ m,(Builtin.zeroCells ((.agg #[.string ⟨#[]⟩,.slice none 0 0,.slice none 0 0]) : Value).cells m).toList.length = m * 3:=fun m=>by simp [Builtin.zeroCells,Value.cells]
 have hZl : ZS.length = G * 3 - k * 3:=by
  rw [hZS,List.length_append,hzc,hzc,← Nat.add_mul,show n + 1 - k + (G - (n + 1)) = G - k by omega,Nat.sub_mul]
 have hG4 : (n + 1) * 3 ≤ G * 3:=Nat.mul_le_mul_right _ hGn
 obtain ⟨ROW,hROW⟩ : ∃ ROW : Array Value,ROW = (xs.take (k * 3) ++ ZS).toArray:=⟨_,rfl⟩
 have hRs : ROW.size = G * 3:=by rw [hROW]; simp; omega
 have hrz : ∀ ty,(Builtin.append_ #[48,3] ty #[.slice (some ⟨g,0,none⟩) k n,.int .i64 ((n : Int) + 1 - (k : Int))]).run Tryz.prog w =
   .ok (.slice (some ⟨w.heap.size,0,none⟩) (n + 1) G) (w.drew.alloc (.cells ROW 25)):=fun ty=>by
  have h:=Lib.run_append_grow_zeros w 48 3 ty 25 i0 _ .i64 .i64 Tryz.underlying48 Tryz.underlying3 hi0 hz0 (some ⟨g,0,none⟩) k n (xs.take (k * 3)) hold (n + 1 - k) (by omega) (by omega) (by omega) (by omega) (by rw [hzb]; omega) (by rw [hzb,hik]; exact growslice_fits (by omega) (by omega))
  rw [hik,← hG] at h
  rw [hkk,h,hROW,hZS]
  congr 3
  simp
 obtain ⟨W1,hW1⟩ : ∃ W1,W1 = w.drew.alloc (.cells ROW 25):=⟨_,rfl⟩
 rw [← hW1] at hrz
 have hR1 : W1.heap[w.heap.size]? = some (.cells ROW 25 (0,0)):=by rw [hW1]; exact heap_alloc_new w.drew _
 have hlow : ∀ j,j < w.heap.size→W1.heap[j]? = w.heap[j]?:=fun j hj=>by rw [hW1]; exact Below.heap_alloc w.drew _ j hj
 have hW1s : W1.heap.size = w.heap.size + 1:=by rw [hW1]; simp
 have hW1o : W1.os = w.os∧W1.tape = w.tape∧W1.output = w.output:=by rw [hW1]; exact ⟨rfl,rfl,rfl⟩
 obtain ⟨C1,hC1⟩ : ∃ C1,C1 = (ROW.toList.take (k * 3) ++ vs ++ ROW.toList.drop (k * 3 + vs.length)).toArray:=⟨_,rfl⟩
 have hC1s : C1.size = ROW.size:=by rw [hC1]; simp; omega
 have hcpA : ∀ (W : World),W.heap = W1.heap→∀ ty dc,(Builtin.copy_ #[48,48] ty #[.slice (some ⟨w.heap.size,k * 3,none⟩) (n + 1 - k) dc,.slice (some ⟨vb,0,none⟩) 1 vc]).run Tryz.prog W = .ok (goInt ((1 : Nat) : Int)) (W.setRow w.heap.size C1):=fun W hW ty dc=>by
  rw [hC1]
  exact run_copy_rowN W _ _ ty 25 3 1 w.heap.size (k * 3) (n + 1 - k) dc ⟨vb,0,none⟩ 1 vc ROW 25 vs Tryz.underlying48 hsz (by simp only [Nat.min_def]; split <;> omega) (by rw [hW]; exact hR1) (by omega)
   (fun j v hj=>by
    have h1:=hS.2 _ _ hj
    have h2 : W.heap[vb]? = w.heap[vb]?:=by rw [hW]; exact hlow vb hvb
    rw [Addr.add_lit] at h1 ⊢
    simpa [World.cell?,h2] using h1) (by omega) h1v
 have hg1 : ∀ W : World,W.heap = (W1.setRow w.heap.size C1).heap→W.heap[w.heap.size]? = some (.cells C1 25 (0,0)):=fun W hW=>by rw [hW]; exact setRow_heap W1 w.heap.size ROW C1 25 (0,0) hR1
 obtain ⟨C2,hC2⟩ : ∃ C2,C2 = (C1.toList.take (k * 3 + 3) ++ xs.drop (k * 3) ++ C1.toList.drop (k * 3 + 3 + (xs.drop (k * 3)).length)).toArray:=⟨_,rfl⟩
 have hC2s : C2.size = C1.size:=by rw [hC2]; simp; omega
 have hcpB : ∀ (W : World),W.heap = (W1.setRow w.heap.size C1).heap→∀ ty dc sc,(Builtin.copy_ #[48,48] ty #[.slice (some ⟨w.heap.size,k * 3 + 3,none⟩) (n - k) dc,.slice (some ⟨g,k * 3,none⟩) (n - k) sc]).run Tryz.prog W = .ok (goInt ((n - k : Nat) : Int)) (W.setRow w.heap.size C2):=fun W hW ty dc sc=>by
  rw [hC2]
  exact run_copy_rowN W _ _ ty 25 3 (n - k) w.heap.size (k * 3 + 3) (n - k) dc ⟨g,k * 3,none⟩ (n - k) sc C1 25 (xs.drop (k * 3)) Tryz.underlying48 hsz (by simp only [Nat.min_def]; split <;> omega) (hg1 W hW) hdl
   (fun j v hj=>by
    rw [List.getElem?_drop] at hj
    have h1:=hX.2 _ _ hj
    have h2 : W.heap[g]? = w.heap[g]?:=by rw [hW]; exact (setRow_other W1 w.heap.size g C1 (by omega)).trans (hlow g hgl)
    rw [show ((⟨g,k * 3,none⟩ : Addr).add j) = (⟨g,0,none⟩ : Addr).add (k * 3 + j) by rw [Addr.add_lit,Addr.add_lit]; simp]
    rw [Addr.add_lit] at h1 ⊢
    simpa [World.cell?,h2] using h1) (by omega) (fun v hv=>h1x v (List.mem_of_mem_drop hv))
 have mixed : Tryz.prog.follows Departure.mixedOrders = true:=by kernel_rfl
 have FIN : Hid (C2.toList.take ((n + 1) * 3) = xs.take (k * 3) ++ vs ++ xs.drop (k * 3)∧C2.size = G * 3∧(xs.take (k * 3) ++ vs ++ xs.drop (k * 3)).length = (n + 1) * 3):=by
  refine Lib.hid ⟨?_,by omega,by simp; omega⟩
  have:=ins_new ZS xs vs (k * 3) (n * 3) 3 hp4 (by omega) hvl' (by omega)
  rw [hC2,hC1,hROW,hdl,hnk,hvl',hn1]
  simpa using this
 have hGi : ¬ (G = k):=by omega
 have hGi2 : ¬ (G = k + 1):=by omega
 have hG63 : (G : Int) ≤ 9223372036854775807:=by unfold maxLen at hGm; omega
 have HW1:=Lib.hid hW1
 have hEE : (W1.setRow w.heap.size C1).drew.heap = (W1.setRow w.heap.size C1).heap:=rfl
 have HGN:=Lib.hid hGn
 clear hC1 hC2 hdl hnk hxl hvl hC1s hC2s hvl' hX hS hp4 hsz hkk hik hold hG hZS hzc hZl hROW hRs hG4 hW1 hn1 hlow hR1 hz0 hi0 hzs hzb
 go_enter Tryz.func84,Tryz.ntmps84
 go_wp2_with (first
  | (at_builtin; refine Lib.wpList_append_run _ rfl _ _ _ _ rfl _ _ rfl rfl _ _ (hrz _) ?_)
  | (at_builtin; refine wpList_copy_runI _ rfl _ _ 48 48 rfl _ _ rfl rfl (hcpA _ rfl _ _) ?_))
 go_region_law_o (refine step_copy_runI rfl _ _ 48 48 rfl (.slice (some ⟨w.heap.size,k * 3 + 3,none⟩) (n - k) (G - (k + 1))) (.slice (some ⟨g,k * 3,none⟩) (n - k) (n - k)) (by simp [Act.eval,Act.put]) (by simp [Act.eval,Act.put]) (hcpB (W1.setRow w.heap.size C1).drew hEE 3 (G - (k + 1)) (n - k)) ?_)
 go_wp2
 go_ret
 have hrow:=own_setRow (w:=(W1.setRow w.heap.size C1).drew) (g:=w.heap.size) (base:=base) (e:=25) (size:=3) (n:=n + 1) (cap:=G) (by simp [World.setRow]; omega) hbase (by have:=HGN.out; omega) hGm FIN.out.2.1 FIN.out.1 FIN.out.2.2 (hg1 _ rfl)
 refine ⟨G,rfl,hrow,?_⟩
 obtain ⟨o1,o2,o3⟩:=hW1o
 refine ⟨o1,o2,o3,by simp [World.setRow]; omega,fun j hj _=>?_⟩
 have hlow : W1.heap[j]? = w.heap[j]?:=by rw [HW1.out]; exact Below.heap_alloc w.drew _ j hj
 exact (setRow_other _ w.heap.size j C2 (by omega)).trans ((setRow_other W1 w.heap.size j C1 (by omega)).trans hlow)
theorem ins_any_tbl (base : Nat) (A : Option Addr) (n c k vb vc : Nat) (xs vs : List Value) (w : World) (ho : w.ownsRow base 25 3 (.slice A n c) n xs) (hv : w.ownsRow base 25 3 (.slice (some ⟨vb,0,none⟩) 1 vc) 1 vs) (hne : ∀ g,Value.ownBlock (.slice A n c) = some g→vb ≠ g) (hb : base ≤ w.heap.size) (hk : k ≤ n) (hn : n ≤ 100000) (h1x : ∀ v ∈ xs,v.oneCell' = true) (h1v : ∀ v ∈ vs,v.oneCell' = true) :
  Calls Tryz.prog 84 #[.slice A n c,.int .i64 k,.slice (some ⟨vb,0,none⟩) 1 vc] w fun e w'=>∃ A' c',e = .returned (.slice A' (n + 1) c')∧w'.ownsRow base 25 3 (.slice A' (n + 1) c') (n + 1) (xs.take (k * 3) ++ vs ++ xs.drop (k * 3))∧w.grownBy w' (Value.ownBlock (.slice A n c)) ∧
   (Value.ownBlock (.slice A' (n + 1) c') = Value.ownBlock (.slice A n c)∨Value.ownBlock (.slice A' (n + 1) c') = some w.heap.size):=by
 have hxl:=ho.1
 rcases Nat.eq_or_lt_of_le hk with rfl | hk
 ·have:=ins_end_tbl base A k c vb vc xs vs w ho hv hn h1v hb
  rw [← hxl,List.take_length,List.drop_length,List.append_nil]
  exact this
 ·rcases ho.2 with ⟨hv0,h0⟩ | ⟨g,cap,cur,hv0,_⟩
  ·omega
  injection hv0 with h1 _ h2
  subst h1 h2
  have hnc:=(own_cap ho).1
  rcases Nat.eq_or_lt_of_le hnc with rfl | hnc
  ·refine (ins_grow_tbl base g n k vb vc xs vs w ho hv hb hk hn h1x h1v).mono ?_
   rintro e w' ⟨c',h1,h2,h3⟩
   exact ⟨_,c',h1,h2,h3,.inr rfl⟩
  ·refine (ins_room_tbl base g n c k vb vc xs vs w ho hv (hne g rfl) hk hn hnc h1x h1v).mono ?_
   rintro e w' ⟨h1,h2,h3⟩
   exact ⟨_,c,h1,h2,h3,.inl rfl⟩
end Go.Proofs.YtpgfhkbnngjegaaGreatDoor

namespace Go.Proofs.YtpgfhkbnngjegaaGreatDoor
open Go.RowKit
set_option linter.unusedVariables false
set_option linter.unusedSimpArgs false
end Go.Proofs.YtpgfhkbnngjegaaGreatDoor

namespace Go.Proofs.YtpgfhkbnngjegaaGreatDoor
open Go.RowKit
set_option linter.unusedVariables false
set_option linter.unusedSimpArgs false
def InsC (P : Program) (f : FuncId) (e : TypeId) (sz : Nat) : Prop:=∀ (base : Nat) (A : Option Addr) (n c k vb vc : Nat) (xs vs : List Value) (w : World),w.ownsRow base e sz (.slice A n c) n xs→w.ownsRow base e sz (.slice (some ⟨vb,0,none⟩) 1 vc) 1 vs→(∀ g,Value.ownBlock (.slice A n c) = some g→vb ≠ g) →
 base ≤ w.heap.size→k ≤ n→n ≤ 100000→(∀ v ∈ xs,v.oneCell' = true)→(∀ v ∈ vs,v.oneCell' = true) →
 Calls P f #[.slice A n c,.int .i64 k,.slice (some ⟨vb,0,none⟩) 1 vc] w fun e' w'=>∃ A' c',e' = .returned (.slice A' (n + 1) c')∧w'.ownsRow base e sz (.slice A' (n + 1) c') (n + 1) (xs.take (k * sz) ++ vs ++ xs.drop (k * sz))∧w.grownBy w' (Value.ownBlock (.slice A n c)) ∧
  (Value.ownBlock (.slice A' (n + 1) c') = Value.ownBlock (.slice A n c)∨Value.ownBlock (.slice A' (n + 1) c') = some w.heap.size)
section
variable {P : Program} {B : Nat} {w0 : World} {gh : List Value}
theorem RelS.renew {σ : St} {ρ : Nat→Value} {a : Act} {w : World} (hr : RelS B w0 gh ρ σ a w) {i : Nat} {e0 : TypeId} {sz : Nat} {els els' : List (List TV)} (hi : hf σ.h i = .row e0 sz els) {A A' : Option Addr} {c c' : Nat} {css css' : List (List Value)} {w' : World} (r1 : ρ i = .slice A els.length c) (r2 : w.ownsRow B e0 sz (.slice A els.length c) els.length css.flatten)
  (hown : w'.ownsRow B e0 sz (.slice A' els'.length c') els'.length css'.flatten) (hgr : w.grownBy w' (Value.ownBlock (.slice A els.length c))) (hor : Value.ownBlock (.slice A' els'.length c') = Value.ownBlock (.slice A els.length c)∨Value.ownBlock (.slice A' els'.length c') = some w.heap.size)
  (r3 : ∀ y ∈ css',y.length = sz) (r4 : DnLL (cxOf B ρ (hf σ.h) w) els' css') (dst : Option Tmp) :
  RelS B w0 gh (updf ρ i (.slice A' els'.length c')) ⟨match dst with | some d=>(kpL (bar i) σ.s).set d (.row i) | none=>kpL (bar i) σ.s,(σ.h.map (LB.kp (bar i))).set i (.row e0 sz (kpLL (bar i) els')),kpL (bar i) σ.g⟩ (a.put dst (.slice A' els'.length c')) w':=by
 have R:=hr.rel
 have hhere : (hf σ.h i).here:=by rw [hi]; trivial
 have hblk : blkOf (ρ i) = Value.ownBlock (.slice A els.length c):=by rw [r1]; cases A <;> rfl
 have hown' : blkOf (.slice A' els'.length c') = Value.ownBlock (.slice A' els'.length c'):=by cases A' <;> rfl
 have hBn : ∀ g,blkOf (ρ i) = some g→B ≤ g:=fun g hgg=>by
  rw [hblk] at hgg
  exact (r2.lt g hgg).1
 have hr' : ∀ g,blkOf (.slice A' els'.length c') = some g→g < w'.heap.size∧(blkOf (ρ i) = some g∨w.heap.size ≤ g):=fun g hgg=>by
  rw [hown'] at hgg
  refine ⟨(hown.lt g hgg).2,?_⟩
  rw [hblk]
  rcases hor with h1 | h1
  ·exact .inl (h1 ▸ hgg)
  ·rw [h1] at hgg
   injection hgg with hgg
   exact .inr (by omega)
 have hgr' : w.grownBy w' (blkOf (ρ i)):=by rw [hblk]; exact hgr
 have hil : i < σ.h.length:=hf_lt hi (by simp)
 have KK : Keeps ((cxOf B ρ (hf σ.h) w).less (bar i)) (cxOf B (updf ρ i (.slice A' els'.length c')) (updf (fun j=>(hf σ.h j).kp (bar i)) i (.row e0 sz (kpLL (bar i) els'))) w'):=.renew hhere hgr' (fun g hgg=>(hr' g hgg).2)
 refine ⟨?_,?_,?_,by rw [put_defers]; exact hr.defers⟩
 ·simp only [hf_map_set hil]
  refine put_dn (DnL.keep KK _ _ (DnL.kp (bar i) _ _ hr.slots)) ?_
  simp only [Dn]
  refine ⟨?_,?_⟩
  ·show LB.here (updf _ i _ i)
   rw [updf_same]; trivial
  ·show _ = updf ρ i _ i
   rw [updf_same]
 ·simp only [hf_map_set hil]
  exact DnL.keep KK _ _ (DnL.kp (bar i) _ _ hr.ghost)
 ·simp only [hf_map_set hil]
  refine R.renew hhere hgr' hBn hr' (fun t cs e=>by cases e) (fun e sz els2 e'=>?_)
  injection e' with e2 e3 e4
  subst e2 e3 e4
  refine ⟨A',c',css',by simp [kpLL_len],?_,r3,DnLL.keep KK _ _ (DnLL.kp (bar i) _ _ r4)⟩
  have : (kpLL (bar i) els').length = els'.length:=by simp [kpLL_len]
  rw [this]
  exact hown
theorem flat_take {α : Type} {sz : Nat} : ∀ {css : List (List α)} (k : Nat),(∀ x ∈ css,x.length = sz)→css.flatten.take (k * sz) = (css.take k).flatten
 | [],k,_=>by simp
 | x :: css,0,_=>by simp
 | x :: css,k + 1,h=>by
  have hx:=h x (by simp)
  simp only [List.flatten_cons,List.take_succ_cons]
  rw [Nat.succ_mul,Nat.add_comm,← hx,List.take_length_add_append,hx,flat_take k fun y hy=>h y (by simp [hy])]
theorem flat_drop {α : Type} {sz : Nat} : ∀ {css : List (List α)} (k : Nat),(∀ x ∈ css,x.length = sz)→css.flatten.drop (k * sz) = (css.drop k).flatten
 | [],k,_=>by simp
 | x :: css,0,_=>by simp
 | x :: css,k + 1,h=>by
  have hx:=h x (by simp)
  simp only [List.flatten_cons,List.drop_succ_cons]
  rw [Nat.succ_mul,Nat.add_comm,← hx,List.drop_length_add_append,hx,flat_drop k fun y hy=>h y (by simp [hy])]
end
section
variable {P : Program} {B : Nat} {w0 : World} {T : Tab} {n : Nat} {e : Env} {h : List XLB} {gs : Frames}
end
end Go.Proofs.YtpgfhkbnngjegaaGreatDoor
