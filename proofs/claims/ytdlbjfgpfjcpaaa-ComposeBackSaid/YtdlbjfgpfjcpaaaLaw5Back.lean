/- quartolaw05.ComposeBack returns true: the walk. -/
import Derived.Test.YtdlbjfgpfjcpaaaLaw5Back0
import Derived.Test.YtdlbjfgpfjcpaaaLaw5Back1
import Derived.Test.YtdlbjfgpfjcpaaaLaw5Back2
namespace Go.Proofs.Ytdlbjfgpfjcpaaa
open Go.RowKit

set_option maxHeartbeats 8000000 in
set_option maxRecDepth 100000 in
theorem lawComposeBack_any (s : List UInt8) (v : Value) (l : List Pc) (v' : Value) (l' : List Pc) (w : World) (hs : s.length ≤ 140737488351232) (h : Sl pcE w v l) (hd : ∀ p, p ∈ l → p.wf) (hl : l.length * 32 ≤ 140737488355328) (h' : Sl pcE w v' l') (hd' : ∀ p, p ∈ l' → p.wf) (hl' : l'.length * 32 ≤ 140737488355328) :
    Calls Try.prog 12 #[.string ⟨s.toArray⟩, v, v'] w fun e w' => e = .returned (.bool true) ∧ Below w.heap.size w w' := by
  by_cases h0 : fitE s l = 0
  · rcases (cmp_back h0).1 with hc | hc
    · by_cases hg : removedS s l = []
      · exact lawBack0 s v l v' l' w hs h hd hl h' hd' hl' h0 hc hg
      · exact lawBack1 s v l v' l' w hs h hd hl h' hd' hl' h0 hc hg
    · exact lawBack2 s v l v' l' w hs h hd hl h' hd' hl' h0 hc
  · have hs' : s.length ≤ 9223372036854775807 := by omega
    have cOA := Lib.hid fun w x h => own5_any x l w h hl
    have cOB := Lib.hid fun w x h => own5_any x l' w h hl'
    have cA := fun w x h => apply_any s x l w hs' h hd
    have H := Lib.hid h; have K := Lib.hid h'
    have hb : (fitE s l != 0) = true := by simpa using h0
    generalize fitE s l = E at *
    generalize applyS s l = TT at *
    have cA' := Lib.hid cA
    clear cA cOB K h0 h h' hd hd' hl hl' hs hs'
    go_enter Try.func12, Try.ntmps12
    go_wp2_with fail
    refine (cOA.out _ _ H.out).mono ?_
    rintro e w1 ⟨x0, rfl, ho, hb⟩
    have X_1 := Lib.hid (Sl.of_own ho)
    have B_1 := Lib.hid hb
    clear hb ho H
    go_wp2_with fail
    refine (cA'.out _ _ X_1.out).mono ?_
    rintro e w2 ⟨rfl, hb⟩
    have B_2 := Lib.hid (B_1.out.trans (hb.mono B_1.out.size))
    clear hb X_1 B_1
    go_wp2_with fail
    refine (known5_any _).mono ?_
    rintro e w3 ⟨rfl, hb⟩
    have B_3 := Lib.hid (B_2.out.trans (hb.mono B_2.out.size))
    clear hb B_2
    go_wp2
    go_ret
    exact ⟨rfl, B_3.out⟩

end Go.Proofs.Ytdlbjfgpfjcpaaa