/- What is meant by 0 comes in the order in which it was sent: the walk. No condition. -/
import Derived.Test.YtmhmldpccccjbaaNK
import Derived.Test.YtmhmldpccccjbaaU24
namespace Go.Proofs.Ytmhmldpccccjbaa
open Go.RowKit
set_option linter.unusedVariables false
set_option linter.unusedSimpArgs false
set_option maxRecDepth 20000
theorem head_at {l : List Int} {y : Int} (h : l[0]? = some y) : l.headD 0 = y := by cases l <;> simp_all
def lofV (x : Int) (l : List Int) : Int := if l.length = 1 then x else 0
set_option maxRecDepth 20000 in
theorem of_X (c : Bool) (f t : Int) (l : List Int) : XMeets Try.prog 26 [.agg [.v (.int .i64 f), .v (.int .i64 t), .sl c (l.map by1)]] (.tu [.ag [.p (.v (.int .i64 (lofV f l))) (nlv _), .p (.v (.int .i64 (lofV t l))) (nlv _), .p (.v (.int .u8 (lofV (l.headD 0) l))) (nlv _)], .p (.v (.bool (decide (l.length = 1)))) (nlv _)]) := by
  refine XMeets.of_X tabX_ok (avs := [.ag [.p (.v (.int .i64 f)) (nlv _), .p (.v (.int .i64 t)) (nlv _), .p (.sl false (l.map by1)) (nl_by1 _).sl]]) [(0, .ag [.p (.v (.int .i64 f)) (nlv _), .p (.v (.int .i64 t)) (nlv _), .p (.sl false (l.map by1)) (nl_by1 _).sl])] (by kernel_rfl) Try.func26 rfl (by simp [PuL, Pu, netT, slC, dfC, sdC, pu_by1, pu_sl, pu_df, pu_sd]) (by simp only [untagL, untag, netT, untag_by1, untag_sl, untag_df, untag_sd]; rfl) rfl rfl ?_
  intro B w0
  conv => whnf
  refine bS (fun hc1 => ?_) (fun hc1 => ?_)
  · skip
    try simp only [bls] at hc1
    conv => whnf
    refine FinG.mk none ?_ (by rintro _ ⟨⟩)
    simp only [outs, List.length_map, List.length_append, List.length_take, List.length_drop, List.length_cons, List.length_nil, slC, dfC, netX, net0, List.map_nil, mix_len, pkX, slX, sl0, delS]
    have h9 : ¬ l.length = 1 := by omega
    simp [lofV, h9]
  · skip
    try simp only [bls] at hc1
    conv => whnf
    refine RegG.par 9 (by kernel_rfl) ?_
    conv => whnf
    refine IdxG.map (l := l) _ rfl (by simp only [List.length_map] at *; omega) ?_; intro y hy hny; have hhd := head_at hy
    conv => whnf
    refine ⟨rfl, ?_⟩
    conv => whnf
    refine FinG.mk none ?_ (by rintro _ ⟨⟩)
    simp only [outs, List.length_map, List.length_append, List.length_take, List.length_drop, List.length_cons, List.length_nil, slC, dfC, netX, net0, List.map_nil, mix_len, pkX, slX, sl0, delS]
    have h9 : l.length = 1 := by omega
    simp only [lofV, h9, if_true, hhd, decide_true, and_self]
end Go.Proofs.Ytmhmldpccccjbaa
