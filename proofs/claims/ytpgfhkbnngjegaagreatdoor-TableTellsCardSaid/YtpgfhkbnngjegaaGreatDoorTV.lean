/- The package-level variables that table's rows list; how tables, rows, texts that come in read as trees. Condition: what is listed. -/
import Derived.Test.YtpgfhkbnngjegaaGreatDoorRows
import Derived.Test.YtpgfhkbnngjegaaGreatDoorT26
import Derived.Test.YtpgfhkbnngjegaaGreatDoorU5
import Derived.Test.YtpgfhkbnngjegaaGreatDoorWS
import Derived.LaidMore
import Derived.LaidHandle
import Derived.Lay
import Derived.OpenShut
import Derived.ProofKit
import Derived.Stop.Joined
namespace Go.Proofs.YtpgfhkbnngjegaaGreatDoor
open Go.ChangeShapes Go.WideShapes Go.ChangeAt Go.RowKit
set_option linter.unusedVariables false
set_option linter.unusedSimpArgs false
def laidL : List (String × DataW Unit):=Rows.tableRowsRow.laid
theorem gl_of {W : World} (h0 : laidMetH Tryz.prog laidL W) : GlB W.heap.size W:=⟨fun g vs hg=>(by cases hg),fun g cs hg=>(by cases hg),fun g hg=>(by cases hg)⟩
theorem lay_met (os : Os) (args : Array Value) : laidMetH Tryz.prog laidL ((World.laidAll Tryz.prog os laidL).forCall (fun _ _=>0) ⟨#[],args,[]⟩).memory:=by
 rw [MakeChecks.laidMetH_plain _ _ _ (by kernel_rfl)]
 exact laidMet_laidAll _ (by kernel_rfl) (by kernel_rfl)
theorem open_strs {els : List (List TV)} (h : ∀ c ∈ els,ShL [.str] c) : ∃ l : List ByteArray,els = l.map st1∧l.length = els.length∧∀ s ∈ l,s.size ≤ maxLen:=
 image_of fun c hc=>by
  obtain ⟨x,rfl,h1⟩:=shL1 (h c hc)
  simp only [ShV] at h1
  obtain ⟨s,rfl,hs⟩:=h1
  exact ⟨s,rfl,hs⟩
theorem got_n {α β : Type} {l : List α} {m : List β} (h : l.length = m.length) (hm : m.length ≤ maxLen) : l.length ≤ 9223372036854775807:=by unfold maxLen at hm; simp at hm; omega
def shVl : List Sh:=[.int .i64,.int .i64,.str]
def shDf : List Sh:=[.str,.int .i64,.bool,.bool]
def shTb : List Sh:=[.str,.sl shDf,.sl [.sl shVl]]
theorem i64_I {x : Int} (h : (Lit.int .i64 x).wf = true) : I64 x:=by simp [Lit.wf,IntKind.min,IntKind.max,IntKind.signed,IntKind.bits] at h; unfold I64; omega
theorem sh_vl {c : List TV} (h : ShL shVl c) : ∃ v : Val,c = vlC v∧ValI v:=by
 simp only [shVl,ShL,ShV] at h
 obtain ⟨_,_,rfl,⟨k,rfl,hk⟩,_,_,rfl,⟨n,rfl,hn⟩,_,_,rfl,⟨s,rfl,hs⟩,rfl⟩:=h
 exact ⟨⟨k,n,s⟩,rfl,i64_I hk,i64_I hn⟩
theorem sh_df {c : List TV} (h : ShL shDf c) : ∃ d : Dfn,c = dfC d∧I64 d.t:=by
 simp only [shDf,ShL,ShV] at h
 obtain ⟨_,_,rfl,⟨s,rfl,hs⟩,_,_,rfl,⟨n,rfl,hn⟩,_,_,rfl,⟨k,rfl⟩,_,_,rfl,⟨nn,rfl⟩,rfl⟩:=h
 exact ⟨⟨s,n,k,nn⟩,rfl,i64_I hn⟩
theorem open_vls {els : List (List TV)} (h : ∀ c ∈ els,ShL shVl c) : ∃ l : List Val,els = l.map vlC∧l.length = els.length∧∀ v ∈ l,ValI v:=image_of fun c hc=>sh_vl (h c hc)
theorem open_dfs {els : List (List TV)} (h : ∀ c ∈ els,ShL shDf c) : ∃ l : List Dfn,els = l.map dfC∧l.length = els.length∧∀ d ∈ l,I64 d.t:=image_of fun c hc=>sh_df (h c hc)
def GotR (l : List (List Val)) : Prop:=l.length ≤ 9223372036854775807∧∀ r ∈ l,r.length ≤ 9223372036854775807∧∀ v ∈ r,ValI v
theorem open_rws {els : List (List TV)} (hn : els.length ≤ maxLen) (h : ∀ c ∈ els,ShL [.sl shVl] c) : ∃ l : List (List Val),els = l.map (rwC false)∧GotR l:=by
 obtain ⟨l,h1,h2,h3⟩:=image_of (f:=rwC false) (Q:=fun r : List Val=>r.length ≤ 9223372036854775807∧∀ v ∈ r,ValI v) fun c hc=>by
  obtain ⟨x,rfl,h1⟩:=shL1 (h c hc)
  obtain ⟨els2,rfl,hn2,h2⟩:=sh_sl h1
  obtain ⟨l,rfl,hl,h3⟩:=open_vls h2
  unfold maxLen at hn2
  exact ⟨l,rfl,by omega,h3⟩
 unfold maxLen at hn
 exact ⟨l,h1,by omega,h3⟩
structure Tbl.Got (t : Tbl) : Prop where
 c : ∀ d ∈ t.c,I64 d.t
 cn : t.c.length ≤ 9223372036854775807
 r : GotR t.r
theorem Tbl.Got.in0 {t : Tbl} (h : t.Got) : t.In0:=⟨h.c,fun r hr=>(h.r.2 r hr).2⟩
theorem open_tb {c : List TV} (h : ShL shTb c) : ∃ t : Tbl,c = tbC false false false t∧t.Got:=by
 simp only [shTb,ShL] at h
 obtain ⟨_,_,rfl,h1,_,_,rfl,h2,_,_,rfl,h3,rfl⟩:=h
 simp only [ShV] at h1
 obtain ⟨s,rfl,hs⟩:=h1
 obtain ⟨e2,rfl,hn2,h2⟩:=sh_sl h2
 obtain ⟨e3,rfl,hn3,h3⟩:=sh_sl h3
 obtain ⟨dl,rfl,hdl,hd⟩:=open_dfs h2
 obtain ⟨rl,rfl,hr⟩:=open_rws hn3 h3
 unfold maxLen at hn2
 exact ⟨⟨s,dl,rl⟩,rfl,hd,by show dl.length ≤ _; simp at hn2; omega,hr⟩
theorem open_tbs {els : List (List TV)} (h : ∀ c ∈ els,ShL shTb c) : ∃ l : List Tbl,els = l.map (tbC false false false)∧l.length = els.length∧∀ t ∈ l,t.Got:=image_of fun c hc=>open_tb (h c hc)
def GotS (s : List Tbl) : Prop:=s.length ≤ 9223372036854775807∧∀ t ∈ s,t.Got
def shSt : List Sh:=[.sl shTb]
theorem open_st {c : List TV} (h : ShL shSt c) : ∃ s : List Tbl,c = [.sl false (s.map (tbC false false false))]∧GotS s:=by
 obtain ⟨x,rfl,h1⟩:=shL1 h
 obtain ⟨els,rfl,hn,h2⟩:=sh_sl h1
 obtain ⟨s,rfl,hl,hs⟩:=open_tbs h2
 unfold maxLen at hn
 exact ⟨s,rfl,by simp at hn; omega,hs⟩
theorem GotS.sh {s : List Tbl} (h : GotS s) : ∀ t ∈ s,t.c.length ≤ 9223372036854775807∧t.r.length ≤ 9223372036854775807∧∀ r ∈ t.r,r.length ≤ 9223372036854775807:=fun t ht=>⟨(h.2 t ht).cn,(h.2 t ht).r.1,fun r hr=>((h.2 t ht).r.2 r hr).1⟩
theorem GotS.in0 {s : List Tbl} (h : GotS s) : ∀ t ∈ s,t.In0:=fun t ht=>(h.2 t ht).in0
end Go.Proofs.YtpgfhkbnngjegaaGreatDoor
