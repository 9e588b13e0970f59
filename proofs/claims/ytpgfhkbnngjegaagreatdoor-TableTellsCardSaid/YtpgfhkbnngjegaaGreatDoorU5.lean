/- The program's table of types for the walks. No condition. -/
import Derived.Test.YtpgfhkbnngjegaaGreatDoorU6
import Derived.Test.YtpgfhkbnngjegaaGreatDoorShelf
import Derived.Test.YtpgfhkbnngjegaaGreatDoorT3
import Derived.Test.YtpgfhkbnngjegaaGreatDoorProg
namespace Go.Proofs.YtpgfhkbnngjegaaGreatDoor
open Go.RowKit
set_option linter.unusedVariables false
set_option linter.unusedSimpArgs false
def st1 (s : ByteArray) : List TV:=[.v (.string s)]
theorem nl_st (l : List ByteArray) : NlLL (l.map st1):=.map fun x _=>.cons (nlv _) .nil
theorem untag_st (l : List ByteArray) : untagLL (l.map st1) = l.map st1:=by rw [untagLL_map]; rfl
theorem pu_st (l : List ByteArray) : PuLL (l.map st1):=PuLL_map _ _ fun x _=>by simp [st1,PuL,Pu]
theorem fr_st (l : List ByteArray) : FrLL (l.map st1):=FrLL_map _ _ fun x _=>by simp [st1,FrL,Fr]
theorem st_len (l : List ByteArray) : ∀ x ∈ l.map st1,x.length = 1:=fun x hx=>by obtain ⟨s,_,rfl⟩:=List.mem_map.1 hx; rfl
theorem st_one (l : List ByteArray) : ∀ x ∈ l.map st1,x.all TV.one = true:=fun x hx=>by obtain ⟨s,_,rfl⟩:=List.mem_map.1 hx; rfl
theorem res_v {C : Cx} {w' : World} {u : Value} {hp : Nl (.v u)} (hb : Below C.w.heap.size C.w w') : ∃ u' ov,Ending.returned u = .returned u'∧Below C.w.heap.size C.w w'∧(∀ g,blkOf ov = some g→C.w.heap.size ≤ g∧g < w'.heap.size)∧Dn (rsCx C.w.heap.size w' ov) (XV.p (.v u) hp).den u':=
 ⟨u,.nilFunc,rfl,hb,fun g hg=>(by cases hg),by simp [XV.den,Dn]⟩
theorem upper_X (s : ByteArray) (hs : s.size ≤ 140737488355328) (ha : ∀ b ∈ bs s,b.toNat < 128) : XMeets Tryz.prog 164 [.v (.string s)] (.p (.v (.string ⟨(Lib.toUpperA (bs s)).toArray⟩)) (nlv _)):=⟨by kernel_rfl,fun C vals _ hd=>by
 simp only [DnL,Dn] at hd
 obtain ⟨u,us,rfl,rfl,rfl⟩:=hd
 refine (Tryz.strings_ToUpper_ascii s C.w hs (fun j b hb=>ha b (List.mem_of_getElem? hb))).mono ?_
 rintro e w' ⟨rfl,hb⟩
 exact res_v hb⟩
set_option maxHeartbeats 1600000 in
theorem clone_str : CloneC Tryz.prog 193 9 1:=⟨by kernel_rfl,by omega,fun A m c xs w hs hm h1=>by
 have T0 : ElemTy Tryz.prog 26 9 (.string ⟨#[]⟩) 1 16:=⟨Tryz.underlying26,by kernel_rfl,rfl,by omega,by omega⟩
 rcases A with _ | ad
 ·have hq0:=hs.2.1 rfl
  subst hq0
  have HP:=Lib.hid hs.empty
  have hnil:=fun (w : World)=>Lib.run_eql_slice_nil (P:=Tryz.prog) w 26 9 (none) 0 c 0 0 Tryz.underlying26
  go_enter Tryz.func193,Tryz.ntmps193
  go_wp2
  go_ret
  exact ⟨none,0,rfl,by rw [HP.out]; exact World.ownsRow_nil _ _ _ _,Below.refl _ _⟩
 ·have hnil:=fun (w : World)=>Lib.run_eql_slice_nil (P:=Tryz.prog) w 26 9 (some ad) m c 0 0 Tryz.underlying26
  go_enter Tryz.func193,Tryz.ntmps193
  go_wp2_with (at_builtin; refine Door.enter ?_)
  refine Door.leave (wl_append T0 (base:=w.heap.size) (World.ownsRow_lit w #[] 0 (Nat.le_refl _) (by simp [maxLen]) (by simp)) (hs.alloc _) (Nat.zero_add _) (List.nil_append _) h1 (by omega) (by simp) rfl rfl rfl rfl ?_)
  intro A' c' w' h2 h3 h4 h5
  go_wp2
  go_ret
  exact ⟨A',c',rfl,h2,((Below.refl _ w).alloc (Nat.le_refl _) _).trans h3⟩⟩
def keysL : List ByteArray:=[⟨#[67,82,69,65,84,69]⟩,⟨#[84,65,66,76,69]⟩,⟨#[68,82,79,80]⟩,⟨#[73,78,83,69,82,84]⟩,⟨#[73,78,84,79]⟩,⟨#[86,65,76,85,69,83]⟩,⟨#[85,80,68,65,84,69]⟩,⟨#[83,69,84]⟩,⟨#[68,69,76,69,84,69]⟩,⟨#[70,82,79,77]⟩,⟨#[83,69,76,69,67,84]⟩,⟨#[87,72,69,82,69]⟩,⟨#[73,78,78,69,82]⟩,⟨#[74,79,73,78]⟩,⟨#[79,78]⟩,⟨#[79,82,68,69,82]⟩,⟨#[66,89]⟩,⟨#[65,83,67]⟩,⟨#[68,69,83,67]⟩,⟨#[76,73,77,73,84]⟩,⟨#[71,82,79,85,80]⟩,⟨#[67,79,85,78,84]⟩,⟨#[83,85,77]⟩,⟨#[65,78,68]⟩,⟨#[79,82]⟩,⟨#[78,79,84]⟩,⟨#[78,85,76,76]⟩,⟨#[84,82,85,69]⟩,⟨#[70,65,76,83,69]⟩,⟨#[73,83]⟩,⟨#[73,78,84]⟩,⟨#[66,79,79,76]⟩,⟨#[84,69,88,84]⟩,⟨#[80,82,73,77,65,82,89]⟩,⟨#[75,69,89]⟩]
end Go.Proofs.YtpgfhkbnngjegaaGreatDoor

namespace Go.Proofs.YtpgfhkbnngjegaaGreatDoor
open Go.RowKit
set_option linter.unusedVariables false
theorem tb_at {α : Type} {f : Nat→Option α} {xs : List (Option α)} {k n : Nat} (h : (List.range n).map (fun t=>f (t + k)) = xs) {t : Nat} {x : α} (hx : xs[t]? = some (some x)) : f (t + k) = some x:=by
 rw [← h,List.getElem?_map] at hx
 rcases Nat.lt_or_ge t n with h1 | h1
 ·simp [h1] at hx; exact hx
 ·simp [h1] at hx
def told : List Nat:=[1,2,3,4,5,6,7,8,9,10,11,12,13,14,15,16,17,18,19,20,21,22,23,24,25,26,27,28,29,30,31,33,34,35,36,37,38,39,40,41,42,43,44,45,46,47,48,49,50,51,52,53,54,55,56,57,58,59,60,61,62,63,64,65,66,67,69,70,71,72,73,75,76,77,79,80,81,82,83,84,86,87,88,89,90,91,92,93,94,95,96,97,98,99,100,101,102,103,104,106,107,108,109,110,111,112,114,115,116,117,118,119,120,121,122,123,124,125,126,127,128,129,130,131,132,133,134,135,136,137,138,139,140,141,142,143,144,145,146,147,148,149,150,151,152,153,154,155,156,157,158,159,160,161,162,163,165,166,167,168,169,170,171,173,174,175,176,177,179,180,181,182,183,184,185,187,188,189,190,191,192,193,194,195,196,198,199,200,201,202,203,204,205,207,208,209,210,211,212,213,214,215,216,217,218,219,220,222,223,224,225,226,228,229,230,231,233,234,236,237,238,239,240,241,242,243,244,245,246,247,248,249,250,251,252,253,254,255,256,257]
def zrowOf (P : Program) (t : Nat) : Option Value:=if told.contains t then (P.info? t).bind (·.zero) else none
def tb0 : List (Option TI):=[some ⟨0,false,1,[],0,0,0,none⟩,some ⟨0,false,1,[],0,0,8,none⟩,some ⟨5,false,1,[],0,0,8,some .i64⟩,some ⟨5,false,1,[],0,0,8,some .i64⟩,some ⟨6,false,1,[],0,0,1,none⟩,some ⟨5,false,1,[],0,0,1,some .u8⟩,some ⟨5,false,1,[],0,0,1,some .u8⟩,some ⟨1,true,4,[(0,2),(1,3),(2,4),(3,6)],0,0,24,none⟩,some ⟨1,true,4,[(0,2),(1,3),(2,4),(3,6)],0,0,24,none⟩,some ⟨4,false,1,[],0,0,16,none⟩,some ⟨4,false,1,[],0,0,16,none⟩,some ⟨4,false,1,[],0,0,16,none⟩,some ⟨5,false,1,[],0,0,8,some .u64⟩,some ⟨1,true,2,[(0,9),(1,12)],0,0,24,none⟩,some ⟨1,true,2,[(0,9),(1,12)],0,0,24,none⟩,some ⟨7,false,1,[],247,0,8,none⟩,some ⟨7,false,1,[],250,0,8,none⟩,some ⟨7,false,1,[],257,0,8,none⟩,some ⟨1,true,1,[(0,17)],0,0,8,none⟩,some ⟨1,true,1,[(0,17)],0,0,8,none⟩,some ⟨0,false,1,[],0,0,16,none⟩,some ⟨5,false,1,[],0,0,4,some .i32⟩,some ⟨3,false,1,[],94,0,24,none⟩,some ⟨3,false,1,[],38,0,24,none⟩,some ⟨1,true,3,[(0,9),(1,22),(2,23)],0,0,64,none⟩,some ⟨1,true,3,[(0,9),(1,22),(2,23)],0,0,64,none⟩,some ⟨3,false,1,[],9,0,24,none⟩,some ⟨0,false,1,[],0,0,8,none⟩,some ⟨0,false,1,[],0,0,8,none⟩,some ⟨0,false,1,[],0,0,8,none⟩,some ⟨5,false,1,[],0,0,8,some .i64⟩,some ⟨0,false,1,[],0,0,8,none⟩,some ⟨0,false,1,[],0,0,0,none⟩,some ⟨0,false,1,[],0,0,8,none⟩,some ⟨0,false,1,[],0,0,8,none⟩,some ⟨0,false,1,[],0,0,8,none⟩,some ⟨0,false,1,[],0,0,8,none⟩,some ⟨0,false,1,[],0,0,8,none⟩,some ⟨3,false,1,[],42,0,24,none⟩,some ⟨0,false,1,[],0,0,8,none⟩]
theorem tb0_ok : (List.range 40).map (fun t=>tiOf Tryz.prog (t + 0)) = tb0:=by kernel_rfl
def tb1 : List (Option TI):=[some ⟨0,false,1,[],0,0,8,none⟩,some ⟨1,true,3,[(0,3),(1,2),(2,9)],0,0,32,none⟩,some ⟨1,true,3,[(0,3),(1,2),(2,9)],0,0,32,none⟩,some ⟨0,false,1,[],0,0,8,none⟩,some ⟨0,false,1,[],0,0,8,none⟩,some ⟨0,false,1,[],0,0,8,none⟩,some ⟨0,false,1,[],0,0,8,none⟩,some ⟨3,false,1,[],50,0,24,none⟩,some ⟨3,false,1,[],25,0,24,none⟩,some ⟨1,true,1,[(0,48)],0,0,24,none⟩,some ⟨1,true,1,[(0,48)],0,0,24,none⟩,some ⟨0,false,1,[],0,0,8,none⟩,some ⟨0,false,1,[],0,0,8,none⟩,some ⟨0,false,1,[],0,0,8,none⟩,some ⟨0,false,1,[],0,0,8,none⟩,some ⟨0,false,1,[],0,0,8,none⟩,some ⟨0,false,1,[],0,0,8,none⟩,some ⟨0,false,1,[],0,0,8,none⟩,some ⟨0,false,1,[],0,0,8,none⟩,some ⟨3,false,1,[],62,0,24,none⟩,some ⟨0,false,1,[],0,0,8,none⟩,some ⟨1,true,2,[(0,9),(1,9)],0,0,32,none⟩,some ⟨1,true,2,[(0,9),(1,9)],0,0,32,none⟩,some ⟨0,false,1,[],0,0,8,none⟩,some ⟨3,false,1,[],66,0,24,none⟩,some ⟨1,true,7,[(0,3),(1,9),(2,25),(5,23),(6,38)],0,0,136,none⟩,some ⟨1,true,7,[(0,3),(1,9),(2,25),(5,23),(6,38)],0,0,136,none⟩,some ⟨0,false,1,[],0,0,8,none⟩,some ⟨0,false,1,[],0,0,0,none⟩,some ⟨0,false,1,[],0,0,8,none⟩,some ⟨0,false,1,[],0,0,8,none⟩,some ⟨0,false,1,[],0,0,8,none⟩,some ⟨0,false,1,[],0,0,8,none⟩,some ⟨0,false,1,[],0,0,8,none⟩,some ⟨0,false,1,[],0,0,0,none⟩,some ⟨0,false,1,[],0,0,8,none⟩,some ⟨0,false,1,[],0,0,8,none⟩,some ⟨0,false,1,[],0,0,8,none⟩,some ⟨0,false,1,[],0,0,0,none⟩,some ⟨0,false,1,[],0,0,8,none⟩]
theorem tb1_ok : (List.range 40).map (fun t=>tiOf Tryz.prog (t + 40)) = tb1:=by kernel_rfl
def tb2 : List (Option TI):=[some ⟨0,false,1,[],0,0,8,none⟩,some ⟨0,false,1,[],0,0,8,none⟩,some ⟨0,false,1,[],0,0,8,none⟩,some ⟨3,false,1,[],84,0,24,none⟩,some ⟨3,false,1,[],5,0,24,none⟩,some ⟨0,false,1,[],0,0,0,none⟩,some ⟨0,false,1,[],0,0,8,none⟩,some ⟨0,false,1,[],0,0,8,none⟩,some ⟨0,false,1,[],0,0,8,none⟩,some ⟨0,false,1,[],0,0,8,none⟩,some ⟨0,false,1,[],0,0,8,none⟩,some ⟨5,false,1,[],0,0,8,some .u64⟩,some ⟨0,false,1,[],0,0,8,none⟩,some ⟨1,true,4,[(0,9),(1,3),(2,4),(3,4)],0,0,32,none⟩,some ⟨1,true,4,[(0,9),(1,3),(2,4),(3,4)],0,0,32,none⟩,some ⟨0,false,1,[],0,0,8,none⟩,some ⟨0,false,1,[],0,0,8,none⟩,some ⟨0,false,1,[],0,0,8,none⟩,some ⟨0,false,1,[],0,0,8,none⟩,some ⟨0,false,1,[],0,0,8,none⟩,some ⟨0,false,1,[],0,0,8,none⟩,some ⟨0,false,1,[],0,0,8,none⟩,some ⟨0,false,1,[],0,0,8,none⟩,some ⟨0,false,1,[],0,0,8,none⟩,some ⟨0,false,1,[],0,0,8,none⟩,some ⟨0,false,1,[],0,0,0,none⟩,some ⟨0,false,1,[],0,0,8,none⟩,some ⟨0,false,1,[],0,0,8,none⟩,some ⟨0,false,1,[],0,0,8,none⟩,some ⟨0,false,1,[],0,0,8,none⟩,some ⟨7,false,1,[],25,0,8,none⟩,some ⟨0,false,1,[],0,0,8,none⟩,some ⟨0,false,1,[],0,0,8,none⟩,some ⟨0,false,1,[],0,0,0,none⟩,some ⟨0,false,1,[],0,0,8,none⟩,some ⟨0,false,1,[],0,0,8,none⟩,some ⟨0,false,1,[],0,0,8,none⟩,some ⟨0,false,1,[],0,0,8,none⟩,some ⟨0,false,1,[],0,0,8,none⟩,some ⟨0,false,1,[],0,0,8,none⟩]
theorem tb2_ok : (List.range 40).map (fun t=>tiOf Tryz.prog (t + 80)) = tb2:=by kernel_rfl
def tb3 : List (Option TI):=[some ⟨7,false,1,[],124,0,8,none⟩,some ⟨7,false,1,[],160,0,8,none⟩,some ⟨0,false,1,[],0,0,8,none⟩,some ⟨1,true,3,[(0,121),(1,4),(2,4)],0,0,16,none⟩,some ⟨1,true,3,[(0,121),(1,4),(2,4)],0,0,16,none⟩,some ⟨0,false,1,[],0,0,8,none⟩,some ⟨0,false,1,[],0,0,8,none⟩,some ⟨0,false,1,[],0,0,8,none⟩,some ⟨7,false,1,[],130,0,8,none⟩,some ⟨1,true,3,[(0,84),(1,4),(2,4)],0,0,32,none⟩,some ⟨1,true,3,[(0,84),(1,4),(2,4)],0,0,32,none⟩,some ⟨0,false,1,[],0,0,8,none⟩,some ⟨0,false,1,[],0,0,8,none⟩,some ⟨0,false,1,[],0,0,8,none⟩,some ⟨0,false,1,[],0,0,8,none⟩,some ⟨0,false,1,[],0,0,8,none⟩,some ⟨0,false,1,[],0,0,8,none⟩,some ⟨0,false,1,[],0,0,8,none⟩,some ⟨0,false,1,[],0,0,8,none⟩,some ⟨5,false,1,[],0,0,8,some .u64⟩,some ⟨0,false,1,[],0,0,8,none⟩,some ⟨0,false,1,[],0,0,8,none⟩,some ⟨0,false,1,[],0,0,8,none⟩,some ⟨0,false,1,[],0,0,8,none⟩,some ⟨0,false,1,[],0,0,8,none⟩,some ⟨0,false,1,[],0,0,8,none⟩,some ⟨0,false,1,[],0,0,8,none⟩,some ⟨0,false,1,[],0,0,8,none⟩,some ⟨0,false,1,[],0,0,8,none⟩,some ⟨0,false,1,[],0,0,8,none⟩,some ⟨0,false,1,[],0,0,8,none⟩,some ⟨0,false,1,[],0,0,8,none⟩,some ⟨0,false,1,[],0,0,8,none⟩,some ⟨0,false,1,[],0,0,8,none⟩,some ⟨0,false,1,[],0,0,8,none⟩,some ⟨0,false,1,[],0,0,8,none⟩,some ⟨0,false,1,[],0,0,8,none⟩,some ⟨1,true,2,[(0,84),(1,3)],0,0,32,none⟩,some ⟨1,true,2,[(0,84),(1,3)],0,0,32,none⟩,some ⟨1,true,3,[(0,158),(2,30)],0,0,40,none⟩]
theorem tb3_ok : (List.range 40).map (fun t=>tiOf Tryz.prog (t + 120)) = tb3:=by kernel_rfl
def tb4 : List (Option TI):=[some ⟨1,true,3,[(0,158),(2,30)],0,0,40,none⟩,some ⟨0,false,1,[],0,0,8,none⟩,some ⟨0,false,1,[],0,0,8,none⟩,some ⟨0,false,1,[],0,0,8,none⟩,some ⟨0,false,1,[],0,0,0,none⟩,some ⟨0,false,1,[],0,0,8,none⟩,some ⟨0,false,1,[],0,0,8,none⟩,some ⟨0,false,1,[],0,0,8,none⟩,some ⟨3,false,1,[],3,0,24,none⟩,some ⟨0,false,1,[],0,0,8,none⟩,some ⟨0,false,1,[],0,0,8,none⟩,some ⟨0,false,1,[],0,0,8,none⟩,some ⟨0,false,1,[],0,0,0,none⟩,some ⟨0,false,1,[],0,0,8,none⟩,some ⟨0,false,1,[],0,0,8,none⟩,some ⟨0,false,1,[],0,0,8,none⟩,some ⟨0,false,1,[],0,0,8,none⟩,some ⟨0,false,1,[],0,0,8,none⟩,some ⟨0,false,1,[],0,0,0,none⟩,some ⟨0,false,1,[],0,0,8,none⟩,some ⟨0,false,1,[],0,0,8,none⟩,some ⟨0,false,1,[],0,0,8,none⟩,some ⟨0,false,1,[],0,0,8,none⟩,some ⟨0,false,1,[],0,0,8,none⟩,some ⟨0,false,1,[],0,0,8,none⟩,some ⟨5,false,1,[],0,0,8,some .i64⟩,some ⟨0,false,1,[],0,0,0,none⟩,some ⟨0,false,1,[],0,0,8,none⟩,some ⟨0,false,1,[],0,0,8,none⟩,some ⟨0,false,1,[],0,0,8,none⟩,some ⟨0,false,1,[],0,0,8,none⟩,some ⟨0,false,1,[],0,0,8,none⟩,some ⟨5,false,1,[],0,0,4,some .u32⟩,some ⟨0,false,1,[],0,0,8,none⟩,some ⟨0,false,1,[],0,0,8,none⟩,some ⟨0,false,1,[],0,0,8,none⟩,some ⟨0,false,1,[],0,0,8,none⟩,some ⟨0,false,1,[],0,0,0,none⟩,some ⟨0,false,1,[],0,0,8,none⟩,some ⟨0,false,1,[],0,0,8,none⟩]
theorem tb4_ok : (List.range 40).map (fun t=>tiOf Tryz.prog (t + 160)) = tb4:=by kernel_rfl
def tb5 : List (Option TI):=[some ⟨7,false,1,[],202,0,8,none⟩,some ⟨1,true,2,[(0,200),(1,84)],0,0,32,none⟩,some ⟨1,true,2,[(0,200),(1,84)],0,0,32,none⟩,some ⟨0,false,1,[],0,0,8,none⟩,some ⟨0,false,1,[],0,0,16,none⟩,some ⟨0,false,1,[],0,0,16,none⟩,some ⟨0,false,1,[],0,0,0,none⟩,some ⟨0,false,1,[],0,0,8,none⟩,some ⟨0,false,1,[],0,0,8,none⟩,some ⟨0,false,1,[],0,0,8,none⟩,some ⟨0,false,1,[],0,0,8,none⟩,some ⟨0,false,1,[],0,0,8,none⟩,some ⟨2,true,35,[],9,35,560,none⟩,some ⟨0,false,1,[],0,0,8,none⟩,some ⟨5,false,1,[],0,0,8,some .u64⟩,some ⟨0,false,1,[],0,0,8,none⟩,some ⟨0,false,1,[],0,0,8,none⟩,some ⟨7,false,1,[],3,0,8,none⟩,some ⟨0,false,1,[],0,0,8,none⟩,some ⟨0,false,1,[],0,0,8,none⟩,some ⟨7,false,1,[],5,0,8,none⟩,some ⟨0,false,1,[],0,0,0,none⟩,some ⟨0,false,1,[],0,0,8,none⟩,some ⟨0,false,1,[],0,0,8,none⟩,some ⟨0,false,1,[],0,0,8,none⟩,some ⟨0,false,1,[],0,0,8,none⟩,some ⟨7,false,1,[],214,0,8,none⟩,some ⟨0,false,1,[],0,0,0,none⟩,some ⟨0,false,1,[],0,0,8,none⟩,some ⟨0,false,1,[],0,0,8,none⟩,some ⟨0,false,1,[],0,0,8,none⟩,some ⟨0,false,1,[],0,0,8,none⟩,some ⟨0,false,1,[],0,0,0,none⟩,some ⟨0,false,1,[],0,0,8,none⟩,some ⟨3,false,1,[],245,0,24,none⟩,some ⟨2,true,256,[],5,256,256,none⟩,some ⟨1,true,2,[(0,5),(1,5)],0,0,2,none⟩,some ⟨1,true,2,[(0,5),(1,5)],0,0,2,none⟩,some ⟨2,true,32,[],237,16,32,none⟩,some ⟨7,false,1,[],245,0,8,none⟩]
theorem tb5_ok : (List.range 40).map (fun t=>tiOf Tryz.prog (t + 200)) = tb5:=by kernel_rfl
def tb6 : List (Option TI):=[some ⟨0,false,1,[],0,0,8,none⟩,some ⟨0,false,1,[],0,0,8,none⟩,some ⟨2,true,3,[],21,3,12,none⟩,some ⟨2,true,3,[],21,3,12,none⟩,some ⟨1,true,5,[(0,192),(1,192),(2,243)],0,0,20,none⟩,some ⟨1,true,5,[(0,192),(1,192),(2,243)],0,0,20,none⟩,some ⟨1,true,4,[(0,17),(1,17),(2,17),(3,9)],0,0,40,none⟩,some ⟨1,true,4,[(0,17),(1,17),(2,17),(3,9)],0,0,40,none⟩,some ⟨2,true,0,[],16,0,0,none⟩,some ⟨1,true,0,[(0,248)],0,0,0,none⟩,some ⟨1,true,0,[(0,248)],0,0,0,none⟩,some ⟨5,false,1,[],0,0,1,some .u8⟩,some ⟨5,false,1,[],0,0,1,some .u8⟩,some ⟨0,false,1,[],0,0,8,none⟩,some ⟨5,false,1,[],0,0,4,some .i32⟩,some ⟨5,false,1,[],0,0,4,some .i32⟩,some ⟨1,true,11,[(0,12),(1,12),(2,192),(3,251),(4,5),(5,5),(6,252),(7,253),(8,220),(9,254),(10,255)],0,0,48,none⟩,some ⟨1,true,11,[(0,12),(1,12),(2,192),(3,251),(4,5),(5,5),(6,252),(7,253),(8,220),(9,254),(10,255)],0,0,48,none⟩]
theorem tb6_ok : (List.range 18).map (fun t=>tiOf Tryz.prog (t + 240)) = tb6:=by kernel_rfl
def zb0 : List (Option Value):=[none,some (.nilFunc),some (.int .i64 0),some (.int .i64 0),some (.bool false),some (.int .u8 0),some (.int .u8 0),some (.agg #[.int .i64 0,.int .i64 0,.bool false,.int .u8 0]),some (.agg #[.int .i64 0,.int .i64 0,.bool false,.int .u8 0]),some (.string ⟨#[]⟩),some (.string ⟨#[]⟩),some (.string ⟨#[]⟩),some (.int .u64 0),some (.agg #[.string ⟨#[]⟩,.int .u64 0]),some (.agg #[.string ⟨#[]⟩,.int .u64 0]),some (.pointer none),some (.pointer none),some (.pointer none),some (.agg #[.pointer none]),some (.agg #[.pointer none]),some (.nilIface),some (.int .i32 0),some (.slice none 0 0),some (.slice none 0 0),some (.agg #[.string ⟨#[]⟩,.slice none 0 0,.slice none 0 0]),some (.agg #[.string ⟨#[]⟩,.slice none 0 0,.slice none 0 0]),some (.slice none 0 0),some (.nilFunc),some (.nilFunc),some (.nilFunc),some (.int .i64 0),some (.nilFunc),none,some (.nilFunc),some (.nilFunc),some (.nilFunc),some (.nilFunc),some (.nilFunc),some (.slice none 0 0),some (.nilFunc)]
theorem zb0_ok : (List.range 40).map (fun t=>zrowOf Tryz.prog (t + 0)) = zb0:=by kernel_rfl
def zb1 : List (Option Value):=[some (.nilFunc),some (.agg #[.int .i64 0,.int .i64 0,.string ⟨#[]⟩]),some (.agg #[.int .i64 0,.int .i64 0,.string ⟨#[]⟩]),some (.nilFunc),some (.nilFunc),some (.nilFunc),some (.nilFunc),some (.slice none 0 0),some (.slice none 0 0),some (.agg #[.slice none 0 0]),some (.agg #[.slice none 0 0]),some (.nilFunc),some (.nilFunc),some (.nilFunc),some (.nilFunc),some (.nilFunc),some (.nilFunc),some (.nilFunc),some (.nilFunc),some (.slice none 0 0),some (.nilFunc),some (.agg #[.string ⟨#[]⟩,.string ⟨#[]⟩]),some (.agg #[.string ⟨#[]⟩,.string ⟨#[]⟩]),some (.nilFunc),some (.slice none 0 0),some (.agg #[.int .i64 0,.string ⟨#[]⟩,.string ⟨#[]⟩,.slice none 0 0,.slice none 0 0,.slice none 0 0,.slice none 0 0]),some (.agg #[.int .i64 0,.string ⟨#[]⟩,.string ⟨#[]⟩,.slice none 0 0,.slice none 0 0,.slice none 0 0,.slice none 0 0]),some (.nilFunc),none,some (.nilFunc),some (.nilFunc),some (.nilFunc),some (.nilFunc),some (.nilFunc),none,some (.nilFunc),some (.nilFunc),some (.nilFunc),none,some (.nilFunc)]
theorem zb1_ok : (List.range 40).map (fun t=>zrowOf Tryz.prog (t + 40)) = zb1:=by kernel_rfl
def zb2 : List (Option Value):=[some (.nilFunc),some (.nilFunc),some (.nilFunc),some (.slice none 0 0),some (.slice none 0 0),none,some (.nilFunc),some (.nilFunc),some (.nilFunc),some (.nilFunc),some (.nilFunc),some (.int .u64 0),some (.nilFunc),some (.agg #[.string ⟨#[]⟩,.int .i64 0,.bool false,.bool false]),some (.agg #[.string ⟨#[]⟩,.int .i64 0,.bool false,.bool false]),some (.nilFunc),some (.nilFunc),some (.nilFunc),some (.nilFunc),some (.nilFunc),some (.nilFunc),some (.nilFunc),some (.nilFunc),some (.nilFunc),some (.nilFunc),none,some (.nilFunc),some (.nilFunc),some (.nilFunc),some (.nilFunc),some (.pointer none),some (.nilFunc),some (.nilFunc),none,some (.nilFunc),some (.nilFunc),some (.nilFunc),some (.nilFunc),some (.nilFunc),some (.nilFunc)]
theorem zb2_ok : (List.range 40).map (fun t=>zrowOf Tryz.prog (t + 80)) = zb2:=by kernel_rfl
def zb3 : List (Option Value):=[some (.pointer none),some (.pointer none),some (.nilFunc),some (.agg #[.pointer none,.bool false,.bool false]),some (.agg #[.pointer none,.bool false,.bool false]),some (.nilFunc),some (.nilFunc),some (.nilFunc),some (.pointer none),some (.agg #[.slice none 0 0,.bool false,.bool false]),some (.agg #[.slice none 0 0,.bool false,.bool false]),some (.nilFunc),some (.nilFunc),some (.map none),some (.nilFunc),some (.nilFunc),some (.nilFunc),some (.nilFunc),some (.nilFunc),some (.int .u64 0),some (.nilFunc),some (.nilFunc),some (.nilFunc),some (.nilFunc),some (.nilFunc),some (.nilFunc),some (.nilFunc),some (.nilFunc),some (.nilFunc),some (.nilFunc),some (.nilFunc),some (.nilFunc),some (.nilFunc),some (.nilFunc),some (.nilFunc),some (.nilFunc),some (.nilFunc),some (.agg #[.slice none 0 0,.int .i64 0]),some (.agg #[.slice none 0 0,.int .i64 0]),some (.agg #[.slice none 0 0,.int .i64 0,.int .i64 0])]
theorem zb3_ok : (List.range 40).map (fun t=>zrowOf Tryz.prog (t + 120)) = zb3:=by kernel_rfl
def zb4 : List (Option Value):=[some (.agg #[.slice none 0 0,.int .i64 0,.int .i64 0]),some (.nilFunc),some (.nilFunc),some (.nilFunc),none,some (.nilFunc),some (.nilFunc),some (.nilFunc),some (.slice none 0 0),some (.nilFunc),some (.nilFunc),some (.nilFunc),none,some (.nilFunc),some (.nilFunc),some (.nilFunc),some (.nilFunc),some (.nilFunc),none,some (.nilFunc),some (.nilFunc),some (.nilFunc),some (.nilFunc),some (.nilFunc),some (.nilFunc),some (.int .i64 0),none,some (.nilFunc),some (.nilFunc),some (.nilFunc),some (.nilFunc),some (.nilFunc),some (.int .u32 0),some (.nilFunc),some (.nilFunc),some (.nilFunc),some (.nilFunc),none,some (.nilFunc),some (.nilFunc)]
theorem zb4_ok : (List.range 40).map (fun t=>zrowOf Tryz.prog (t + 160)) = zb4:=by kernel_rfl
def zb5 : List (Option Value):=[some (.pointer none),some (.agg #[.pointer none,.slice none 0 0]),some (.agg #[.pointer none,.slice none 0 0]),some (.nilFunc),some (.nilIface),some (.nilIface),none,some (.nilFunc),some (.nilFunc),some (.nilFunc),some (.nilFunc),some (.nilFunc),some (.agg #[.string ⟨#[]⟩,.string ⟨#[]⟩,.string ⟨#[]⟩,.string ⟨#[]⟩,.string ⟨#[]⟩,.string ⟨#[]⟩,.string ⟨#[]⟩,.string ⟨#[]⟩,.string ⟨#[]⟩,.string ⟨#[]⟩,.string ⟨#[]⟩,.string ⟨#[]⟩,.string ⟨#[]⟩,.string ⟨#[]⟩,.string ⟨#[]⟩,.string ⟨#[]⟩,.string ⟨#[]⟩,.string ⟨#[]⟩,.string ⟨#[]⟩,.string ⟨#[]⟩,.string ⟨#[]⟩,.string ⟨#[]⟩,.string ⟨#[]⟩,.string ⟨#[]⟩,.string ⟨#[]⟩,.string ⟨#[]⟩,.string ⟨#[]⟩,.string ⟨#[]⟩,.string ⟨#[]⟩,.string ⟨#[]⟩,.string ⟨#[]⟩,.string ⟨#[]⟩,.string ⟨#[]⟩,.string ⟨#[]⟩,.string ⟨#[]⟩]),some (.nilFunc),some (.int .u64 0),some (.nilFunc),some (.nilFunc),some (.pointer none),some (.nilFunc),some (.nilFunc),some (.pointer none),none,some (.nilFunc),some (.nilFunc),some (.nilFunc),some (.nilFunc),some (.pointer none),none,some (.nilFunc),some (.pointer none),some (.nilFunc),some (.nilFunc),none,some (.nilFunc),some (.slice none 0 0),none,some (.agg #[.int .u8 0,.int .u8 0]),some (.agg #[.int .u8 0,.int .u8 0]),some (.agg #[.int .u8 0,.int .u8 0,.int .u8 0,.int .u8 0,.int .u8 0,.int .u8 0,.int .u8 0,.int .u8 0,.int .u8 0,.int .u8 0,.int .u8 0,.int .u8 0,.int .u8 0,.int .u8 0,.int .u8 0,.int .u8 0,.int .u8 0,.int .u8 0,.int .u8 0,.int .u8 0,.int .u8 0,.int .u8 0,.int .u8 0,.int .u8 0,.int .u8 0,.int .u8 0,.int .u8 0,.int .u8 0,.int .u8 0,.int .u8 0,.int .u8 0,.int .u8 0]),some (.pointer none)]
theorem zb5_ok : (List.range 40).map (fun t=>zrowOf Tryz.prog (t + 200)) = zb5:=by kernel_rfl
def zb6 : List (Option Value):=[some (.nilFunc),some (.nilFunc),some (.agg #[.int .i32 0,.int .i32 0,.int .i32 0]),some (.agg #[.int .i32 0,.int .i32 0,.int .i32 0]),some (.agg #[.int .u32 0,.int .u32 0,.int .i32 0,.int .i32 0,.int .i32 0]),some (.agg #[.int .u32 0,.int .u32 0,.int .i32 0,.int .i32 0,.int .i32 0]),some (.agg #[.pointer none,.pointer none,.pointer none,.string ⟨#[]⟩]),some (.agg #[.pointer none,.pointer none,.pointer none,.string ⟨#[]⟩]),some (.agg #[]),some (.agg #[]),some (.agg #[]),some (.int .u8 0),some (.int .u8 0),some (.nilFunc),some (.int .i32 0),some (.int .i32 0),some (.agg #[.int .u64 0,.int .u64 0,.int .u32 0,.int .u8 0,.int .u8 0,.int .u8 0,.int .u8 0,.nilFunc,.pointer none,.int .i32 0,.int .i32 0]),some (.agg #[.int .u64 0,.int .u64 0,.int .u32 0,.int .u8 0,.int .u8 0,.int .u8 0,.int .u8 0,.nilFunc,.pointer none,.int .i32 0,.int .i32 0])]
theorem zb6_ok : (List.range 18).map (fun t=>zrowOf Tryz.prog (t + 240)) = zb6:=by kernel_rfl
def tg (t : Nat) : Option TI:=(match t / 40 with | 0=>tb0 | 1=>tb1 | 2=>tb2 | 3=>tb3 | 4=>tb4 | 5=>tb5 | 6=>tb6 | _=>[])[t % 40]?.join
def zg (t : Nat) : Option Value:=(match t / 40 with | 0=>zb0 | 1=>zb1 | 2=>zb2 | 3=>zb3 | 4=>zb4 | 5=>zb5 | 6=>zb6 | _=>[])[t % 40]?.join
theorem zfin {t : Nat} {x : Value} (h : zrowOf Tryz.prog t = some x) : (Tryz.prog.info? t).map (·.zero) = some (some x):=by
 unfold zrowOf at h
 split at h
 ·cases hi : Tryz.prog.info? t with
  | none=>simp [hi] at h
  | some i=>simp [hi] at h ⊢; exact h
 ·cases h
theorem tT {t : Nat} {x : TI} (h : tg t = some x) : tiOf Tryz.prog t = some x:=by
 unfold tg at h
 have ht : t = t % 40 + 40 * (t / 40):=by omega
 generalize t % 40 = r at h ht
 generalize t / 40 = q at h ht
 subst ht
 split at h
 ·rw [Option.join_eq_some_iff] at h
  exact tb_at (k:=0) tb0_ok h
 ·rw [Option.join_eq_some_iff] at h
  exact tb_at (k:=40) tb1_ok h
 ·rw [Option.join_eq_some_iff] at h
  exact tb_at (k:=80) tb2_ok h
 ·rw [Option.join_eq_some_iff] at h
  exact tb_at (k:=120) tb3_ok h
 ·rw [Option.join_eq_some_iff] at h
  exact tb_at (k:=160) tb4_ok h
 ·rw [Option.join_eq_some_iff] at h
  exact tb_at (k:=200) tb5_ok h
 ·rw [Option.join_eq_some_iff] at h
  exact tb_at (k:=240) tb6_ok h
 ·simp at h
theorem zT {t : Nat} {x : Value} (h : zg t = some x) : (Tryz.prog.info? t).map (·.zero) = some (some x):=by
 unfold zg at h
 have ht : t = t % 40 + 40 * (t / 40):=by omega
 generalize t % 40 = r at h ht
 generalize t / 40 = q at h ht
 subst ht
 split at h
 ·rw [Option.join_eq_some_iff] at h
  exact zfin (tb_at (k:=0) zb0_ok h)
 ·rw [Option.join_eq_some_iff] at h
  exact zfin (tb_at (k:=40) zb1_ok h)
 ·rw [Option.join_eq_some_iff] at h
  exact zfin (tb_at (k:=80) zb2_ok h)
 ·rw [Option.join_eq_some_iff] at h
  exact zfin (tb_at (k:=120) zb3_ok h)
 ·rw [Option.join_eq_some_iff] at h
  exact zfin (tb_at (k:=160) zb4_ok h)
 ·rw [Option.join_eq_some_iff] at h
  exact zfin (tb_at (k:=200) zb5_ok h)
 ·rw [Option.join_eq_some_iff] at h
  exact zfin (tb_at (k:=240) zb6_ok h)
 ·simp at h
end Go.Proofs.YtpgfhkbnngjegaaGreatDoor

namespace Go.Proofs.YtpgfhkbnngjegaaGreatDoor
open Go.RowKit
set_option linter.unusedVariables false
set_option linter.unusedSimpArgs false
def tabX : Tab:=fun t=>match tg t with
 | some x=>some (x,zg t)
 | none=>none
theorem tabX_ok : TabOk Tryz.prog tabX where
 ty t x z h:=by
  unfold tabX at h
  split at h
  ·rename_i y hy
   simp only [Option.some.injEq,Prod.mk.injEq] at h
   obtain ⟨rfl,rfl⟩:=h
   exact ⟨tT hy,fun v hv=>zT hv⟩
  ·cases h
 mo:=by kernel_rfl
end Go.Proofs.YtpgfhkbnngjegaaGreatDoor
