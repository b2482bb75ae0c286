/- quartolaw05.ComposeApplies returns true: the walk. -/
import Derived.Test.YtdlbjfgpfjcpaaaLaw5App0
import Derived.Test.YtdlbjfgpfjcpaaaLaw5App1
namespace Go.Proofs.Ytdlbjfgpfjcpaaa
open Go.RowKit

theorem lawComposeApplies_any (s : List UInt8) (v : Value) (l : List Pc) (v' : Value) (l' : List Pc) (w : World) (hs : s.length ≤ 140737488351232) (h : Sl pcE w v l) (hd : ∀ p, p ∈ l → p.wf) (hl : l.length * 32 ≤ 140737488355328) (h' : Sl pcE w v' l') (hd' : ∀ p, p ∈ l' → p.wf) (hl' : l'.length * 32 ≤ 140737488355328) :
    Calls Try.prog 10 #[.string ⟨s.toArray⟩, v, v'] w fun e w' => e = .returned (.bool true) ∧ Below w.heap.size w w' := by
  have A : ∀ x : Bool, x = true ∨ x = false := fun x => by cases x <;> simp
  by_cases h0 : fitE s l = 0
  · by_cases h1 : fitE (applyS s l) l' = 0
    · rcases (cmp_fits h0).1 h1 with h2 | h2
      · rcases A (largeB l) with g1 | g1
        · exact lawApp3 s v l v' l' w hs h hd hl h' hd' hl' h0 h1 h2 (.inl g1)
        · rcases A (largeB l') with g2 | g2
          · exact lawApp3 s v l v' l' w hs h hd hl h' hd' hl' h0 h1 h2 (.inr (.inl g2))
          · rcases A (largeB (cmpR l l')) with g3 | g3
            · exact lawApp3 s v l v' l' w hs h hd hl h' hd' hl' h0 h1 h2 (.inr (.inr g3))
            · exact lawApp4 s v l v' l' w hs h hd hl h' hd' hl' h0 h1 h2 g1 g2 g3
      · exact lawApp1 s v l v' l' w hs h hd hl h' hd' hl' h0 h1 h2
    · exact lawApp0 s v l v' l' w hs h hd hl h' hd' hl' h0 h1
  · exact lawApp2 s v l v' l' w hs h hd hl h' hd' hl' h0

end Go.Proofs.Ytdlbjfgpfjcpaaa