/- rope.Pen: what it has noted. -/
import Derived.Test.YtclmjnobacepjaaGreatTPut
namespace Go.Proofs.YtclmjnobacepjaaGreat
open Go.RowKit

/-- the box of a root: node k, written if it is among the first m -/
def rbC (G : Ar) (m k : Nat) : Array Value := #[.int .u64 (if k < m then hd k else 0 : Nat), .int .i64 (htOf G k), .int .i64 (meas (txt G k)).b, .int .i64 (meas (txt G k)).r, .int .i64 (meas (txt G k)).n]
/-- job j writes node x, into box rb -/
def JbOK (N : Nat → Prop) (bp : Nat) (bxs : List (Nat × Nat)) (W : World) (j : Jb) (rb : Nat) (x : Nd) : Prop :=
  N j.p ∧ N j.c ∧ N j.r ∧ Bk W j.p #[.pointer (some ⟨bp, 0, none⟩)] 126 ∧ Bk W j.r #[.pointer (some ⟨rb, 0, none⟩)] 130 ∧
  ((∃ bx, N bx ∧ Bk W j.c #[.func (.func 84) #[] #[.pointer (some ⟨bx, 0, none⟩)]] 171 ∧ Bk W bx #[.int .i64 0, .string ⟨x.T.toArray⟩, .slice none 0 0] 84 ∧ x.ht = 0 ∧ x.ks = []) ∨
   (∃ (h bt bk : Nat) (ap : Option Addr) (l cap : Nat) (A : Option Addr) (c : Nat) (kbs : List Nat) (B : Nat), N bt ∧ N bk ∧ Bk W j.c #[.func (.func 85) #[] #[.pointer (some ⟨bt, 0, none⟩), .pointer (some ⟨bk, 0, none⟩)]] 171 ∧ Bk W bt #[.int .u64 0, .int .i64 ((h : Int) + 1), .int .i64 0, .int .i64 0, .int .i64 0, .string ⟨#[]⟩, .slice ap l cap] 76 ∧
      Bk W bk #[.slice A (List.length kbs) c] 172 ∧ Ow ptE W B 130 (.slice A kbs.length c) kbs ∧ (∀ g, (Value.slice A kbs.length c).ownBlock = some g → N g) ∧ x.ht = h + 1 ∧ All2 (fun b k => (b, k) ∈ bxs) kbs x.ks))
/-- what is not in S keeps -/
def KeepN (S : TypeId → Prop) (N : Nat → Prop) (W W' : World) : Prop := ∀ b cur t, N b → ¬ S t → Bk W b cur t → Bk W' b cur t
theorem Ow.keepN {α : Type} {E : Enc α} {S : TypeId → Prop} {N : Nat → Prop} {w w' : World} {B : Nat} {e : TypeId} {v : Value} {l : List α} (h : Ow E w B e v l) (hk : KeepN S N w w') (hN : ∀ g, v.ownBlock = some g → N g) (he : ¬ S e) : Ow E w' B e v l := by
  refine h.kept fun g hg => ?_
  rcases h.2 with ⟨rfl, _⟩ | ⟨g', cap, cur, rfl, _, hg', _⟩
  · cases hg
  · have e2 : g' = g := Option.some.inj hg
    subst e2
    exact (hk g' cur _ (hN g' rfl) he hg').trans hg'.symm
def stS (t : TypeId) : Prop := t = 132 ∨ t = 154 ∨ t = 39
theorem JbOK.keep {S : TypeId → Prop} {N : Nat → Prop} {bp : Nat} {bxs : List (Nat × Nat)} {W W' : World} {j : Jb} {rb : Nat} {x : Nd} (h : JbOK N bp bxs W j rb x) (hk : KeepN S N W W') (hS : ∀ t, S t → stS t) : JbOK N bp bxs W' j rb x := by
  have q : ∀ b cur t, N b → ¬ stS t → Bk W b cur t → Bk W' b cur t := fun b cur t hb ht h => hk b cur t hb (fun e => ht (hS t e)) h
  obtain ⟨n1, n2, n3, h1, h2, h3⟩ := h
  refine ⟨n1, n2, n3, q _ _ _ n1 (by unfold stS; decide) h1, q _ _ _ n3 (by unfold stS; decide) h2, ?_⟩
  rcases h3 with ⟨bx, m1, a, b, c⟩ | ⟨h, bt, bk, ap, l, cap, A, c, kbs, B, m1, m2, a, b, d, e, f, g⟩
  · exact .inl ⟨bx, m1, q _ _ _ n2 (by unfold stS; decide) a, q _ _ _ m1 (by unfold stS; decide) b, c⟩
  · exact .inr ⟨h, bt, bk, ap, l, cap, A, c, kbs, B, m1, m2, q _ _ _ n2 (by unfold stS; decide) a, q _ _ _ m1 (by unfold stS; decide) b, q _ _ _ m2 (by unfold stS; decide) d, e.keepN hk f (fun z => by have := hS _ z; unfold stS at this; revert this; decide), f, g⟩
theorem JbOK.more {N N' : Nat → Prop} {bp : Nat} {bxs bxs' : List (Nat × Nat)} {W : World} {j : Jb} {rb : Nat} {x : Nd} (h : JbOK N bp bxs W j rb x) (hN : ∀ b, N b → N' b) (hb : ∀ p ∈ bxs, p ∈ bxs') : JbOK N' bp bxs' W j rb x := by
  obtain ⟨n1, n2, n3, h1, h2, h3⟩ := h
  refine ⟨hN _ n1, hN _ n2, hN _ n3, h1, h2, ?_⟩
  rcases h3 with ⟨bx, m1, a, b, c⟩ | ⟨h, bt, bk, ap, l, cap, A, c, kbs, B, m1, m2, a, b, d, e, f, g⟩
  · exact .inl ⟨bx, hN _ m1, a, b, c⟩
  · exact .inr ⟨h, bt, bk, ap, l, cap, A, c, kbs, B, hN _ m1, hN _ m2, a, b, d, e, fun g hg => hN _ (f g hg), g.1, g.2.imp fun b k _ _ q => hb _ q⟩

/-- what has been noted: nodes xs, of which i are written -/
structure PenC (w0 : World) (G : Ar) (bp : Nat) (xs : List Nd) (js : List Jb) (rbs : List Nat) (bxs : List (Nat × Nat)) (i : Nat) (N : Nat → Prop) (W : World) : Prop where
  nlt : ∀ b, N b → w0.heap.size ≤ b ∧ b < W.heap.size
  jl : js.length = xs.length
  rl : rbs.length = xs.length
  ok : ArOK (G ++ xs)
  job : ∀ (i : Nat) (j : Jb) (rb : Nat) (x : Nd), js[i]? = some j → rbs[i]? = some rb → xs[i]? = some x → JbOK N bp bxs W j rb x
  box : ∀ b k, (b, k) ∈ bxs → N b ∧ k < G.length + xs.length ∧ Bk W b (rbC (G ++ xs) (G.length + i) k) 39
  uniq : ∀ b k, (b, k) ∈ bxs → G.length ≤ k → rbs[k - G.length]? = some b
  rin : ∀ (i : Nat) rb, rbs[i]? = some rb → (rb, G.length + i) ∈ bxs
  fn : ∀ b k k', (b, k) ∈ bxs → (b, k') ∈ bxs → k = k'
theorem PenC.keep {w0 : World} {G : Ar} {bp : Nat} {xs : List Nd} {js : List Jb} {rbs : List Nat} {bxs : List (Nat × Nat)} {i : Nat} {N : Nat → Prop} {W W' : World} (h : PenC w0 G bp xs js rbs bxs i N W) (hk : KeepN addS N W W') (hs : W.heap.size ≤ W'.heap.size) : PenC w0 G bp xs js rbs bxs i N W' :=
  ⟨fun b hb => ⟨(h.nlt b hb).1, Nat.lt_of_lt_of_le (h.nlt b hb).2 hs⟩, h.jl, h.rl, h.ok, fun i j rb x a b c => (h.job i j rb x a b c).keep hk (fun t q => q.elim (fun e => .inl e) (fun e => .inr (.inl e))),
    fun b k q => ⟨(h.box b k q).1, (h.box b k q).2.1, hk _ _ _ (h.box b k q).1 (by unfold addS; decide) (h.box b k q).2.2⟩, h.uniq, h.rin, h.fn⟩
theorem txt_more {G : Ar} {xs ys : List Nd} {k : Nat} (hk : k < G.length + xs.length) : txt (G ++ (xs ++ ys)) k = txt (G ++ xs) k := by
  rw [← List.append_assoc]; exact txt_app (by rw [List.length_append]; exact hk)
theorem ht_app {G H : Ar} {k : Nat} (h : k < G.length) : htOf (G ++ H) k = htOf G k := by
  unfold htOf; rw [List.getElem?_append_left h]
theorem rbC_more {G : Ar} {xs ys : List Nd} {m k : Nat} (hk : k < G.length + xs.length) : rbC (G ++ (xs ++ ys)) m k = rbC (G ++ xs) m k := by
  unfold rbC
  rw [txt_more hk, ← List.append_assoc, ht_app (by rw [List.length_append]; exact hk)]
/-- a kept node's box more -/
theorem PenC.box0 {w0 : World} {G : Ar} {bp : Nat} {xs : List Nd} {js : List Jb} {rbs : List Nat} {bxs : List (Nat × Nat)} {i : Nat} {N : Nat → Prop} {W : World} (h : PenC w0 G bp xs js rbs bxs i N W) {rb k : Nat} (hk : k < G.length) (hb : Bk W rb (rbC (G ++ xs) (G.length + i) k) 39) (h0 : w0.heap.size ≤ rb) (hn : ¬ N rb) :
    PenC w0 G bp xs js rbs (bxs ++ [(rb, k)]) i (fun b => N b ∨ b = rb) W := by
  refine ⟨fun b q => ?_, h.jl, h.rl, h.ok, fun i j rb x a b c => (h.job i j rb x a b c).more (fun _ q => .inl q) (fun p q => List.mem_append.2 (.inl q)), fun b k' q => ?_, fun b k' q hk' => ?_, fun i rb' q => List.mem_append.2 (.inl (h.rin i rb' q)), fun b k1 k2 q1 q2 => ?_⟩
  · rcases q with q | rfl
    · exact h.nlt b q
    · exact ⟨h0, hb.lt⟩
  · rcases List.mem_append.1 q with q | q
    · exact ⟨.inl (h.box b k' q).1, (h.box b k' q).2⟩
    · obtain ⟨rfl, rfl⟩ : b = rb ∧ k' = k := by simpa using q
      exact ⟨.inr rfl, by omega, hb⟩
  · rcases List.mem_append.1 q with q | q
    · exact h.uniq b k' q hk'
    · obtain ⟨rfl, rfl⟩ : b = rb ∧ k' = k := by simpa using q
      omega
  · rcases List.mem_append.1 q1 with r1 | r1 <;> rcases List.mem_append.1 q2 with r2 | r2
    · exact h.fn b k1 k2 r1 r2
    · obtain ⟨rfl, rfl⟩ : b = rb ∧ k2 = k := by simpa using r2
      exact absurd (h.box _ _ r1).1 hn
    · obtain ⟨rfl, rfl⟩ : b = rb ∧ k1 = k := by simpa using r1
      exact absurd (h.box _ _ r2).1 hn
    · obtain ⟨_, rfl⟩ : b = rb ∧ k1 = k := by simpa using r1
      obtain ⟨_, rfl⟩ : b = rb ∧ k2 = k1 := by simpa using r2
      rfl
/-- a job more -/
theorem PenC.add {w0 : World} {G : Ar} {bp : Nat} {xs : List Nd} {js : List Jb} {rbs : List Nat} {bxs : List (Nat × Nat)} {i : Nat} {N N' : Nat → Prop} {W : World} (h : PenC w0 G bp xs js rbs bxs i N W) {rb : Nat} {j : Jb} {x : Nd} (hx : NdOK (G ++ xs) (G ++ xs).length x)
    (hN : ∀ b, N b → N' b) (hlt : ∀ b, N' b → w0.heap.size ≤ b ∧ b < W.heap.size) (hb : Bk W rb (rbC (G ++ (xs ++ [x])) (G.length + i) (G.length + xs.length)) 39) (hr : N' rb) (hn : ¬ N rb) (hj : JbOK N' bp bxs W j rb x) :
    PenC w0 G bp (xs ++ [x]) (js ++ [j]) (rbs ++ [rb]) (bxs ++ [(rb, G.length + xs.length)]) i N' W := by
  have hl : (xs ++ [x]).length = xs.length + 1 := by simp
  have hok := h.ok.snoc hx
  rw [List.append_assoc] at hok
  refine ⟨hlt, by simp [h.jl], by simp [h.rl], hok, fun m j' rb' x' a b c => ?_, fun b k q => ?_, fun b k q hk => ?_, fun m rb' q => ?_, fun b k1 k2 q1 q2 => ?_⟩
  · by_cases e : m < xs.length
    · rw [List.getElem?_append_left (by rw [h.jl]; exact e)] at a
      rw [List.getElem?_append_left (by rw [h.rl]; exact e)] at b
      rw [List.getElem?_append_left e] at c
      exact (h.job m j' rb' x' a b c).more hN (fun p q => List.mem_append.2 (.inl q))
    · have e2 : m = xs.length := by
        have := (List.getElem?_eq_some_iff.1 c).1
        simp at this; omega
      subst e2
      rw [← h.jl] at a
      have ha : j' = j := by simpa using a.symm
      have hb' : rb' = rb := by rw [← h.rl] at b; simpa using b.symm
      have hc : x' = x := by simpa using c.symm
      subst ha; subst hb'; subst hc
      exact hj.more (fun _ q => q) (fun p q => List.mem_append.2 (.inl q))
  · rcases List.mem_append.1 q with q | q
    · obtain ⟨a, b', c⟩ := h.box b k q
      refine ⟨hN _ a, by omega, ?_⟩
      rw [rbC_more b']; exact c
    · obtain ⟨rfl, rfl⟩ : b = rb ∧ k = G.length + xs.length := by simpa using q
      exact ⟨hr, by omega, hb⟩
  · rcases List.mem_append.1 q with q | q
    · have := (h.box b k q).2.1
      rw [List.getElem?_append_left (by rw [h.rl]; omega)]
      exact h.uniq b k q hk
    · obtain ⟨rfl, rfl⟩ : b = rb ∧ k = G.length + xs.length := by simpa using q
      rw [Nat.add_sub_cancel_left, ← h.rl]; simp
  · by_cases e : m < rbs.length
    · rw [List.getElem?_append_left e] at q
      exact List.mem_append.2 (.inl (h.rin m rb' q))
    · have e2 : m = rbs.length := by
        have := (List.getElem?_eq_some_iff.1 q).1
        simp at this; omega
      subst e2
      have : rb' = rb := by simpa using q.symm
      subst this
      rw [h.rl]
      exact List.mem_append.2 (.inr (by simp))
  · rcases List.mem_append.1 q1 with r1 | r1 <;> rcases List.mem_append.1 q2 with r2 | r2
    · exact h.fn b k1 k2 r1 r2
    · obtain ⟨rfl, rfl⟩ : b = rb ∧ k2 = _ := by simpa using r2
      exact absurd (h.box _ _ r1).1 hn
    · obtain ⟨rfl, rfl⟩ : b = rb ∧ k1 = _ := by simpa using r1
      exact absurd (h.box _ _ r2).1 hn
    · obtain ⟨_, rfl⟩ : b = rb ∧ k1 = _ := by simpa using r1
      obtain ⟨_, rfl⟩ : b = rb ∧ k2 = _ := by simpa using r2
      rfl

/-- the pen while jobs are noted -/
structure PenA (w0 : World) (A : AF) (G : Ar) (bp : Nat) (xs : List Nd) (js : List Jb) (rbs : List Nat) (bxs : List (Nat × Nat)) (N : Nat → Prop) (W : World) : Prop where
  below : Below w0.heap.size w0 W
  core : PenC w0 G bp xs js rbs bxs 0 N W
  nb : N bp
  pen : ∃ Av c, Bk W bp #[.pointer (some ⟨A.ba, 0, none⟩), .slice Av js.length c, .pointer none] 132 ∧ Ow jbE W w0.heap.size 154 (.slice Av js.length c) js ∧ ∀ g, (Value.slice Av js.length c).ownBlock = some g → N g
/-- blocks that are not the pen's keep -/
def KeepO (N : Nat → Prop) (W W' : World) : Prop := W.heap.size ≤ W'.heap.size ∧ ∀ b, b < W.heap.size → ¬ N b → W'.heap[b]? = W.heap[b]?
theorem KeepO.trans {N N' : Nat → Prop} {a b c : World} (h : KeepO N a b) (h' : KeepO N' b c) (hN : ∀ g, N' g → N g ∨ a.heap.size ≤ g) : KeepO N a c :=
  ⟨Nat.le_trans h.1 h'.1, fun g hg hn => (h'.2 g (Nat.lt_of_lt_of_le hg h.1) (fun q => (hN g q).elim hn (fun e => absurd e (by omega)))).trans (h.2 g hg hn)⟩
theorem KeepO.bk {N : Nat → Prop} {W W' : World} {b : Nat} {cs : Array Value} {t : TypeId} (h : KeepO N W W') (hb : Bk W b cs t) (hn : ¬ N b) : Bk W' b cs t := (h.2 b hb.lt hn).trans hb
theorem KeepO.of_below {N : Nat → Prop} {W W' : World} (h : Below W.heap.size W W') : KeepO N W W' := ⟨h.size, fun b hb _ => h.block b hb⟩
/-- the pen is untouched by what keeps its blocks -/
theorem PenA.keep {w0 : World} {A : AF} {G : Ar} {bp : Nat} {xs : List Nd} {js : List Jb} {rbs : List Nat} {bxs : List (Nat × Nat)} {N : Nat → Prop} {W W' : World} (h : PenA w0 A G bp xs js rbs bxs N W) (hb : Below w0.heap.size w0 W') (hs : W.heap.size ≤ W'.heap.size) (hk : ∀ b, N b → W'.heap[b]? = W.heap[b]?) : PenA w0 A G bp xs js rbs bxs N W' := by
  obtain ⟨Av, c, h1, h2, h3⟩ := h.pen
  exact ⟨hb, h.core.keep (fun b cur t hb _ q => (hk b hb).trans q) hs, h.nb, ⟨Av, c, (hk bp h.nb).trans h1, h2.kept fun g hg => hk g (h3 g hg), h3⟩⟩
theorem PenA.ext {w0 : World} {A : AF} {G : Ar} {bp : Nat} {xs : List Nd} {js : List Jb} {rbs : List Nat} {bxs : List (Nat × Nat)} {N : Nat → Prop} {W W' : World} (h : PenA w0 A G bp xs js rbs bxs N W) (hb : Below W.heap.size W W') : PenA w0 A G bp xs js rbs bxs N W' :=
  h.keep (bcall h.below hb) hb.size (fun b q => hb.block b (h.core.nlt b q).2)
theorem PenA.box0 {w0 : World} {A : AF} {G : Ar} {bp : Nat} {xs : List Nd} {js : List Jb} {rbs : List Nat} {bxs : List (Nat × Nat)} {N : Nat → Prop} {W : World} (h : PenA w0 A G bp xs js rbs bxs N W) {rb k : Nat} (hk : k < G.length) (hb : Bk W rb (rbC (G ++ xs) G.length k) 39) (h0 : w0.heap.size ≤ rb) (hn : ¬ N rb) :
    PenA w0 A G bp xs js rbs (bxs ++ [(rb, k)]) (fun b => N b ∨ b = rb) W := by
  obtain ⟨Av, c, h1, h2, h3⟩ := h.pen
  exact ⟨h.below, h.core.box0 hk hb h0 hn, .inl h.nb, ⟨Av, c, h1, h2, fun g hg => .inl (h3 g hg)⟩⟩
/-- what put does to the pen -/
theorem PenA.put {w0 : World} {A : AF} {G : Ar} {bp : Nat} {xs : List Nd} {js : List Jb} {rbs : List Nat} {bxs : List (Nat × Nat)} {N : Nat → Prop} {W W' : World} {fn : FuncId} {cf : Array Value} {rb : Nat} {row : Option Nat} {x : Nd} {M : Nat → Prop} (h : PenA w0 A G bp xs js rbs bxs N W) (hp : PutV W bp (.pointer (some ⟨A.ba, 0, none⟩)) (.pointer none) fn cf rb js w0.heap.size row W') (hrow : ∀ g, row = some g → N g)
    (hx : NdOK (G ++ xs) (G ++ xs).length x) (hb : Bk W rb (rbC (G ++ (xs ++ [x])) G.length (G.length + xs.length)) 39) (hr : M rb) (hn : ¬ N rb) (hM : ∀ b, M b → w0.heap.size ≤ b ∧ b < W.heap.size)
    (hj : ∀ j : Jb, ∀ W'' , KeepN addS (fun b => N b ∨ M b) W W'' → Bk W'' j.p #[.pointer (some ⟨bp, 0, none⟩)] 126 → Bk W'' j.r #[.pointer (some ⟨rb, 0, none⟩)] 130 → Bk W'' j.c #[.func (.func fn) #[] cf] 171 → JbOK (fun b => N b ∨ M b ∨ b = j.p ∨ b = j.r ∨ b = j.c) bp bxs W'' j rb x) :
    ∃ (j : Jb) (N' : Nat → Prop), PenA w0 A G bp (xs ++ [x]) (js ++ [j]) (rbs ++ [rb]) (bxs ++ [(rb, G.length + xs.length)]) N' W' ∧ (∀ b, N' b → N b ∨ M b ∨ W.heap.size ≤ b) ∧ KeepO N W W' := by
  obtain ⟨j, Av, c, h1, h2, h3, h4, h5, g1, g2, g3, hk, hbl, hpl, hfr⟩ := hp
  have hkN : KeepN addS (fun b => N b ∨ M b) W W' := fun b cur t hb ht q => hk.2 b cur t (hb.elim (fun e => (h.core.nlt b e).1) (fun e => (hM b e).1)) ht q
  refine ⟨j, fun b => (N b ∨ M b ∨ b = j.p ∨ b = j.r ∨ b = j.c) ∨ (W.heap.size ≤ b ∧ b < W'.heap.size), ⟨h.below.trans hbl, ?_, .inl (.inl h.nb), ⟨Av, c, by rw [List.length_append]; exact h1, by rw [List.length_append]; exact h2, fun g hg => ?_⟩⟩, ?_, ⟨hk.1, fun b hb hnb => hfr b hb (fun e => hnb (e ▸ h.nb)) (fun g hg e => hnb (e ▸ hrow g hg))⟩⟩
  · have hc := h.core.keep (fun b cur t hb ht q => hkN b cur t (.inl hb) ht q) hk.1
    have hw := h.below.size
    refine hc.add hx (fun b q => .inl (.inl q)) (fun b q => ?_) (hkN _ _ _ (.inr hr) (by unfold addS; decide) hb) (.inl (.inr (.inl hr))) hn ((hj j W' hkN h3 h4 h5).more (fun b q => .inl q) (fun p q => q))
    rcases q with (q | q | rfl | rfl | rfl) | q
    · exact hc.nlt b q
    · exact ⟨(hM b q).1, Nat.lt_of_lt_of_le (hM b q).2 hk.1⟩
    · exact ⟨by omega, h3.lt⟩
    · exact ⟨by omega, h4.lt⟩
    · exact ⟨by omega, h5.lt⟩
    · exact ⟨by omega, q.2⟩
  · rw [List.length_append] at hg
    rcases hpl with e | e
    · exact .inl (.inl (hrow g (by rw [← e]; exact hg)))
    · exact .inr ⟨e g hg, (h2.lt g hg).2⟩
  · rintro b ((q | q | rfl | rfl | rfl) | q)
    · exact .inl q
    · exact .inr (.inl q)
    · exact .inr (.inr g1)
    · exact .inr (.inr g2)
    · exact .inr (.inr g3)
    · exact .inr (.inr q.1)

end Go.Proofs.YtclmjnobacepjaaGreat

/- what writing a plan makes of the nodes. Plain. -/
namespace Go.Proofs.YtclmjnobacepjaaGreat
open Go.RowKit

theorem ksOf_lt {G : Ar} {k j : Nat} (h : j ∈ ksOf G k) : k < G.length := by
  unfold ksOf at h
  cases e : G[k]? with
  | none => rw [e] at h; cases h
  | some x => exact (List.getElem?_eq_some_iff.1 e).1
theorem Rch.app {G H : Ar} {k x : Nat} (r : Rch G k x) : Rch (G ++ H) k x := by
  induction r with
  | refl => exact .refl _
  | step h _ ih => exact .step (by rw [ks_app (ksOf_lt h)]; exact h) ih
theorem Rch.trans {G : Ar} {a b c : Nat} (r : Rch G a b) (r' : Rch G b c) : Rch G a c := by
  induction r with
  | refl => exact r'
  | step h _ ih => exact .step h (ih r')
theorem Rch.le {G : Ar} (hG : ArOK G) {k x : Nat} (r : Rch G k x) : x ≤ k := by
  induction r with
  | refl => exact Nat.le_refl _
  | @step k j x h _ ih =>
    have hk := ksOf_lt h
    have hx := List.getElem?_eq_getElem hk
    unfold ksOf at h
    rw [hx] at h
    rcases hG k _ hx with ⟨_, q, _⟩ | ⟨_, _, _, _, q, _⟩
    · simp only at h; rw [q] at h; cases h
    · have := (q j h).1; omega
theorem Rch.back {G H : Ar} (hG : ArOK G) {k x : Nat} (r : Rch (G ++ H) k x) (hk : k < G.length) : Rch G k x := by
  induction r with
  | refl => exact .refl _
  | @step k j x h _ ih =>
    rw [ks_app hk] at h
    have h' := h
    have hx := List.getElem?_eq_getElem hk
    unfold ksOf at h'
    rw [hx] at h'
    refine .step h (ih ?_)
    rcases hG k _ hx with ⟨_, q, _⟩ | ⟨_, _, _, _, q, _⟩
    · simp only at h'; rw [q] at h'; cases h'
    · have := (q j h').1; omega

/-- a plan I written behind G and xs: ys is new, k is its root -/
structure AddV (G : Ar) (xs ys : List Nd) (h : Nat) (I : PI) (k : Nat) : Prop where
  lt : k < G.length + xs.length + ys.length
  txt : txt (G ++ (xs ++ ys)) k = I.T
  ht : htOf (G ++ (xs ++ ys)) k = h
  n : ys.length = I.n
  src : k ∈ I.K ∨ G.length + xs.length ≤ k
  new : ∀ i, G.length + xs.length ≤ i → i < G.length + xs.length + ys.length → Rch (G ++ (xs ++ ys)) k i
  old : ∀ j ∈ I.K, Rch (G ++ (xs ++ ys)) k j
  kid : ∀ y ∈ ys, ∀ j ∈ y.ks, j ∈ I.K ∨ G.length + xs.length ≤ j
/-- .. plans of height h, one after another -/
structure AddL (G : Ar) (xs ys : List Nd) (h : Nat) (Is : List PI) (ks : List Nat) : Prop where
  all : All2 (fun I k => k < G.length + xs.length + ys.length ∧ txt (G ++ (xs ++ ys)) k = I.T ∧ htOf (G ++ (xs ++ ys)) k = h) Is ks
  n : ys.length = (Is.map PI.n).sum
  src : ∀ k ∈ ks, k ∈ keysT Is ∨ G.length + xs.length ≤ k
  new : ∀ i, G.length + xs.length ≤ i → i < G.length + xs.length + ys.length → ∃ k ∈ ks, Rch (G ++ (xs ++ ys)) k i
  old : ∀ j ∈ keysT Is, ∃ k ∈ ks, Rch (G ++ (xs ++ ys)) k j
  kid : ∀ y ∈ ys, ∀ j ∈ y.ks, j ∈ keysT Is ∨ G.length + xs.length ≤ j

theorem AddL.nil (G : Ar) (xs : List Nd) (h : Nat) : AddL G xs [] h [] [] :=
  ⟨trivial, rfl, fun _ q => (by cases q), fun i a b => absurd b (by simp; omega), fun _ q => (by cases q), fun _ q => (by cases q)⟩
theorem keysT_snoc (Is : List PI) (I : PI) : keysT (Is ++ [I]) = keysT Is ++ I.K := by simp [keysT]
theorem AddL.snoc {G : Ar} {xs ys zs : List Nd} {h k : Nat} {Is : List PI} {I : PI} {ks : List Nat} (a : AddL G xs ys h Is ks) (b : AddV G (xs ++ ys) zs h I k) : AddL G xs (ys ++ zs) h (Is ++ [I]) (ks ++ [k]) := by
  have e : G ++ (xs ++ (ys ++ zs)) = G ++ (xs ++ ys) ++ zs := by simp
  have e2 : G ++ (xs ++ (ys ++ zs)) = G ++ ((xs ++ ys) ++ zs) := by simp
  have hl : (G ++ (xs ++ ys)).length = G.length + xs.length + ys.length := by simp; omega
  have hl2 : (xs ++ ys).length = xs.length + ys.length := by simp
  have hl3 : (ys ++ zs).length = ys.length + zs.length := by simp
  refine ⟨(a.all.imp fun I k _ _ q => ?_).append ⟨⟨?_, ?_, ?_⟩, trivial⟩, ?_, fun j hj => ?_, fun i h1 h2 => ?_, fun j hj => ?_, fun y hy j hj => ?_⟩
  · refine ⟨by omega, ?_, ?_⟩
    · rw [e, txt_app (by omega)]; exact q.2.1
    · rw [e, ht_app (by omega)]; exact q.2.2
  · have := b.lt; omega
  · rw [e2]; exact b.txt
  · rw [e2]; exact b.ht
  · rw [hl3, a.n, b.n]; simp
  · rcases List.mem_append.1 hj with hj | hj
    · rw [keysT_snoc]
      exact (a.src j hj).imp (fun q => List.mem_append.2 (.inl q)) id
    · obtain rfl : j = k := by simpa using hj
      rw [keysT_snoc]
      refine b.src.imp (fun q => List.mem_append.2 (.inr q)) (fun q => ?_)
      omega
  · by_cases hi : i < G.length + xs.length + ys.length
    · obtain ⟨k', hk', r⟩ := a.new i h1 hi
      exact ⟨k', List.mem_append.2 (.inl hk'), by rw [e]; exact r.app⟩
    · exact ⟨k, by simp, by rw [e2]; exact b.new i (by omega) (by omega)⟩
  · rw [keysT_snoc] at hj
    rcases List.mem_append.1 hj with hj | hj
    · obtain ⟨k', hk', r⟩ := a.old j hj
      exact ⟨k', List.mem_append.2 (.inl hk'), by rw [e]; exact r.app⟩
    · exact ⟨k, by simp, by rw [e2]; exact b.old j hj⟩
  · rw [keysT_snoc]
    rcases List.mem_append.1 hy with hy | hy
    · exact (a.kid y hy j hj).imp (fun q => List.mem_append.2 (.inl q)) id
    · refine (b.kid y hy j hj).imp (fun q => List.mem_append.2 (.inr q)) (fun q => ?_)
      omega
theorem AddV.kept {G : Ar} {xs : List Nd} {h k : Nat} {x : Nd} (hx : G[k]? = some x) (hh : x.ht = h) : AddV G xs [] h ⟨x.T, [k], 0⟩ k := by
  have hk : k < G.length := (List.getElem?_eq_some_iff.1 hx).1
  refine ⟨by omega, ?_, ?_, rfl, .inl (by simp), fun i a b => absurd b (by simp; omega), fun j hj => ?_, fun y hy _ _ => (by cases hy)⟩
  · rw [txt_app hk, txt_of hx]
  · rw [ht_app hk, htOf_of hx, hh]
  · obtain rfl : j = k := by simpa using hj
    exact .refl _
theorem last_get (G : Ar) (xs : List Nd) (x : Nd) : (G ++ (xs ++ [x]))[G.length + xs.length]? = some x := by
  rw [← List.append_assoc, List.getElem?_append_right (by simp)]
  simp
theorem AddV.leaf {G : Ar} {xs : List Nd} {I : PI} (hK : I.K = []) (hn : I.n = 1) : AddV G xs [⟨0, I.T, []⟩] 0 I (G.length + xs.length) := by
  have hg := last_get G xs ⟨0, I.T, []⟩
  refine ⟨by simp, by rw [txt_of hg], by rw [htOf_of hg], by simp [hn], .inr (Nat.le_refl _), fun i a b => ?_, fun j hj => (by rw [hK] at hj; cases hj), fun y hy j hj => ?_⟩
  · simp only [List.length_cons, List.length_nil] at b
    obtain rfl : i = G.length + xs.length := by omega
    exact .refl _
  · obtain rfl : y = ⟨0, I.T, []⟩ := by simpa using hy
    cases hj
theorem leaf_nd {G : Ar} {i : Nat} {T : List UInt8} (h1 : 1 ≤ T.length) (h2 : T.length ≤ 16) : NdOK G i ⟨0, T, []⟩ := .inl ⟨rfl, rfl, h1, h2⟩
theorem AddL.texts {G : Ar} {xs ys : List Nd} {h : Nat} {Is : List PI} {ks : List Nat} (a : AddL G xs ys h Is ks) : ks.map (txt (G ++ (xs ++ ys))) = Is.map PI.T := by
  have := a.all
  revert this
  generalize G ++ (xs ++ ys) = H
  intro q
  clear a
  induction Is generalizing ks with
  | nil =>
    cases ks with
    | nil => rfl
    | cons b m => exact q.elim
  | cons I Is ih =>
    cases ks with
    | nil => exact q.elim
    | cons b m => rw [List.map_cons, List.map_cons, ih q.2, q.1.2.1]
theorem AddL.nd {G : Ar} {xs ys : List Nd} {h : Nat} {Is : List PI} {ks : List Nat} (a : AddL G xs ys h Is ks) (h2 : 2 ≤ Is.length) (h4 : Is.length ≤ 4) (h8 : ∀ I ∈ Is, h = 0 → 8 ≤ I.T.length) :
    NdOK (G ++ (xs ++ ys)) (G ++ (xs ++ ys)).length ⟨h + 1, (Is.map PI.T).flatten, ks⟩ := by
  have hl := a.all.len
  refine .inr ⟨h, rfl, (show 2 ≤ ks.length by omega), (show ks.length ≤ 4 by omega), fun k (hk : k ∈ ks) => ?_, ?_⟩
  · obtain ⟨i, hi, e⟩ := List.getElem_of_mem hk
    have hi2 : i < Is.length := by omega
    obtain ⟨k', hk', q1, q2, q3⟩ := a.all.get (List.getElem?_eq_getElem hi2)
    obtain rfl : k' = k := by
      rw [List.getElem?_eq_getElem hi] at hk'
      rw [← e]; exact (Option.some.inj hk').symm
    have hlt : k' < (G ++ (xs ++ ys)).length := by simp; omega
    refine ⟨hlt, _, List.getElem?_eq_getElem hlt, ?_, fun h0 => ?_⟩
    · rw [← q3, htOf, List.getElem?_eq_getElem hlt]
    · have := h8 _ (List.getElem_mem hi2) h0
      rw [← q2, txt, List.getElem?_eq_getElem hlt] at this
      exact this
  · rw [a.texts]
theorem AddL.node {G : Ar} {xs ys : List Nd} {h : Nat} {Is : List PI} {ks : List Nat} (a : AddL G xs ys h Is ks) : AddV G xs (ys ++ [⟨h + 1, (Is.map PI.T).flatten, ks⟩]) (h + 1) (sumPI Is) (G.length + xs.length + ys.length) := by
  have hg : (G ++ (xs ++ (ys ++ [(⟨h + 1, (Is.map PI.T).flatten, ks⟩ : Nd)])))[G.length + xs.length + ys.length]? = some ⟨h + 1, (Is.map PI.T).flatten, ks⟩ := by
    have := last_get G (xs ++ ys) ⟨h + 1, (Is.map PI.T).flatten, ks⟩
    rw [List.append_assoc, List.length_append, ← Nat.add_assoc] at this
    exact this
  have e : G ++ (xs ++ (ys ++ [(⟨h + 1, (Is.map PI.T).flatten, ks⟩ : Nd)])) = G ++ (xs ++ ys) ++ [⟨h + 1, (Is.map PI.T).flatten, ks⟩] := by simp
  have hks : ksOf (G ++ (xs ++ (ys ++ [(⟨h + 1, (Is.map PI.T).flatten, ks⟩ : Nd)]))) (G.length + xs.length + ys.length) = ks := by unfold ksOf; rw [hg]
  have hK : (sumPI Is).K = keysT Is := rfl
  refine ⟨by simp, by rw [txt_of hg]; rfl, by rw [htOf_of hg], ?_, .inr (by omega), fun i h1 h2 => ?_, fun j hj => ?_, fun y hy j hj => ?_⟩
  · rw [List.length_append, a.n]; show _ + 1 = 1 + _; omega
  · by_cases hi : i < G.length + xs.length + ys.length
    · obtain ⟨k, hk, r⟩ := a.new i h1 hi
      exact .step (by rw [hks]; exact hk) (by rw [e]; exact r.app)
    · simp only [List.length_append, List.length_cons, List.length_nil] at h2
      obtain rfl : i = G.length + xs.length + ys.length := by omega
      exact .refl _
  · rw [hK] at hj
    obtain ⟨k, hk, r⟩ := a.old j hj
    exact .step (by rw [hks]; exact hk) (by rw [e]; exact r.app)
  · rw [hK]
    rcases List.mem_append.1 hy with hy | hy
    · exact a.kid y hy j hj
    · obtain rfl : y = ⟨h + 1, (Is.map PI.T).flatten, ks⟩ := by simpa using hy
      exact a.src j hj

end Go.Proofs.YtclmjnobacepjaaGreat

/- rope.Pen.add: a kept plan, a leaf. -/
namespace Go.Proofs.YtclmjnobacepjaaGreat
open Go.RowKit

def AddSays (w0 : World) (A : AF) (G : Ar) (bp h : Nat) : Prop := ∀ (c : TC) (I : PI) (xs : List Nd) (js : List Jb) (rbs : List Nat) (bxs : List (Nat × Nat)) (N : Nat → Prop) (W : World), PenA w0 A G bp xs js rbs bxs N W → PV G FT w0 h c I → G.length + xs.length + I.n ≤ 1000 → I.T.length ≤ 65536 →
    Calls Tryz.prog 65 #[.pointer (some ⟨bp, 0, none⟩), c.v] W fun e W' => ∃ (rb k : Nat) (ys : List Nd) (js' : List Jb) (rbs' : List Nat) (bxs' : List (Nat × Nat)) (N' : Nat → Prop), e = .returned (.pointer (some ⟨rb, 0, none⟩)) ∧ PenA w0 A G bp (xs ++ ys) js' rbs' bxs' N' W' ∧ (rb, k) ∈ bxs' ∧ (∀ p ∈ bxs, p ∈ bxs') ∧ AddV G xs ys h I k ∧ KeepO N W W' ∧ ∀ b, N' b → N b ∨ W.heap.size ≤ b

theorem put_pen {w0 : World} {A : AF} {G : Ar} {bp : Nat} {xs : List Nd} {js : List Jb} {rbs : List Nat} {bxs : List (Nat × Nat)} {N : Nat → Prop} {W : World} (fn : FuncId) (cf : Array Value) {rb : Nat} {x : Nd} (M : Nat → Prop) (h : PenA w0 A G bp xs js rbs bxs N W) (hl : xs.length ≤ 1000)
    (hx : NdOK (G ++ xs) (G ++ xs).length x) (hb : Bk W rb (rbC (G ++ (xs ++ [x])) G.length (G.length + xs.length)) 39) (hr : M rb) (hn : ¬ N rb) (hM : ∀ b, M b → w0.heap.size ≤ b ∧ b < W.heap.size)
    (hj : ∀ j : Jb, ∀ W'' , KeepN addS (fun b => N b ∨ M b) W W'' → Bk W'' j.p #[.pointer (some ⟨bp, 0, none⟩)] 126 → Bk W'' j.r #[.pointer (some ⟨rb, 0, none⟩)] 130 → Bk W'' j.c #[.func (.func fn) #[] cf] 171 → JbOK (fun b => N b ∨ M b ∨ b = j.p ∨ b = j.r ∨ b = j.c) bp bxs W'' j rb x) :
    Calls Tryz.prog 83 #[.pointer (some ⟨bp, 0, none⟩), .pointer (some ⟨rb, 0, none⟩), .func (.func fn) #[] cf] W fun e W' => e = .returned (.tuple #[]) ∧ ∃ (j : Jb) (N' : Nat → Prop), PenA w0 A G bp (xs ++ [x]) (js ++ [j]) (rbs ++ [rb]) (bxs ++ [(rb, G.length + xs.length)]) N' W' ∧ (∀ b, N' b → N b ∨ M b ∨ W.heap.size ≤ b) ∧ KeepO N W W' := by
  obtain ⟨Av, c, h1, h2, h3⟩ := h.pen
  refine (put_any bp (.pointer (some ⟨A.ba, 0, none⟩)) (.pointer none) fn cf rb Av c js w0.heap.size W h1 h2 (h.core.nlt bp h.nb).1 (by rw [h.core.jl]; exact hl)).mono fun e W' ⟨he, hp⟩ => ⟨he, h.put hp h3 hx hb hr hn hM hj⟩

set_option maxHeartbeats 1000000 in
set_option maxRecDepth 100000 in
theorem add_kept (w0 : World) (A : AF) (G : Ar) (bp h : Nat) (c : TC) (I : PI) (xs : List Nd) (js : List Jb) (rbs : List Nat) (bxs : List (Nat × Nat)) (N : Nat → Prop) (w : World) (p : PenA w0 A G bp xs js rbs bxs N w) (q : Kept G h c I) :
    Calls Tryz.prog 65 #[.pointer (some ⟨bp, 0, none⟩), c.v] w fun e W' => ∃ (rb k : Nat) (ys : List Nd) (js' : List Jb) (rbs' : List Nat) (bxs' : List (Nat × Nat)) (N' : Nat → Prop), e = .returned (.pointer (some ⟨rb, 0, none⟩)) ∧ PenA w0 A G bp (xs ++ ys) js' rbs' bxs' N' W' ∧ (rb, k) ∈ bxs' ∧ (∀ p ∈ bxs, p ∈ bxs') ∧ AddV G xs ys h I k ∧ KeepO N w W' ∧ ∀ b, N' b → N b ∨ w.heap.size ≤ b := by
  obtain ⟨k, x, hx, hh, rfl, rfl⟩ := q
  have hk : k < G.length := (List.getElem?_eq_some_iff.1 hx).1
  have hrb : rbC (G ++ xs) G.length k = #[.int .u64 (hd k : Nat), .int .i64 h, .int .i64 (meas (txt G k)).b, .int .i64 (meas (txt G k)).r, .int .i64 (meas (txt G k)).n] := by
    unfold rbC
    rw [if_pos hk, ht_app hk, txt_app hk, htOf_of hx, hh]
  have hk0 : (((hd k : Nat) : Int) != 0) = true := by rw [bne_iff_ne]; unfold hd; omega
  have HV := Lib.hid (AddV.kept (xs := xs) hx hh)
  have P := Lib.hid p; have HRB := Lib.hid hrb; have HKL := Lib.hid hk
  rw [kpC_v]
  clear hx hh p hrb hk
  go_enter Tryz.func65, Tryz.ntmps65
  go_wp2_with fail
  go_ret
  refine ⟨w.heap.size + 1, k, [], js, rbs, bxs ++ [(w.heap.size + 1, k)], fun b => N b ∨ b = w.heap.size + 1, rfl, ?_, by simp, fun p q => List.mem_append.2 (.inl q), HV.out, KeepO.of_below (bal (bal (Below.refl _ _))), ?_⟩
  · rw [List.append_nil]
    have hpe := P.out.ext (bal (o := .cells #[.int .u64 (hd k : Nat), .int .i64 h, .int .i64 (meas (txt G k)).b, .int .i64 (meas (txt G k)).r, .int .i64 (meas (txt G k)).n] 39) (bal (o := .cells #[.int .u64 (hd k : Nat), .int .i64 h, .int .i64 (meas (txt G k)).b, .int .i64 (meas (txt G k)).r, .int .i64 (meas (txt G k)).n, .string ⟨#[]⟩, .slice none 0 0] 76) (Below.refl w.heap.size w)))
    refine hpe.box0 HKL.out (by rw [HRB.out]; exact bal2' w) (by have := P.out.below.size; omega) (fun q => by have := (P.out.core.nlt _ q).2; omega)
  · rintro b (q | rfl)
    · exact .inl q
    · exact .inr (by omega)

set_option maxHeartbeats 2000000 in
set_option maxRecDepth 100000 in
theorem add_leaf (w0 : World) (A : AF) (G : Ar) (bp : Nat) (I : PI) (xs : List Nd) (js : List Jb) (rbs : List Nat) (bxs : List (Nat × Nat)) (N : Nat → Prop) (w : World) (p : PenA w0 A G bp xs js rbs bxs N w) (h1 : 1 ≤ I.T.length) (h16 : I.T.length ≤ 16) (hK : I.K = []) (hn : I.n = 1) (hle : G.length + xs.length + 1 ≤ 1000) :
    Calls Tryz.prog 65 #[.pointer (some ⟨bp, 0, none⟩), (lfC I.T).v] w fun e W' => ∃ (rb k : Nat) (ys : List Nd) (js' : List Jb) (rbs' : List Nat) (bxs' : List (Nat × Nat)) (N' : Nat → Prop), e = .returned (.pointer (some ⟨rb, 0, none⟩)) ∧ PenA w0 A G bp (xs ++ ys) js' rbs' bxs' N' W' ∧ (rb, k) ∈ bxs' ∧ (∀ p ∈ bxs, p ∈ bxs') ∧ AddV G xs ys 0 I k ∧ KeepO N w W' ∧ ∀ b, N' b → N b ∨ w.heap.size ≤ b := by
  have hnd : NdOK (G ++ xs) (G ++ xs).length ⟨0, I.T, []⟩ := leaf_nd h1 h16
  have hNI : ∀ W, NodeIn (G ++ xs) (G ++ xs).length ⟨0, I.T, []⟩ (.slice none 0 0) W := fun W => ⟨p.core.ok, hnd, by rw [List.length_append]; omega, Sl.nil _ _, fun _ => rfl, by show I.T.length ≤ 65536; omega⟩
  have cM := fun W => nmeas_any (G ++ xs) (G ++ xs).length ⟨0, I.T, []⟩ (.slice none 0 0) W (hNI W)
  have HV := Lib.hid (AddV.leaf (G := G) (xs := xs) hK hn)
  have HND := Lib.hid hnd
  have hrb : rbC (G ++ (xs ++ [⟨0, I.T, []⟩])) G.length (G.length + xs.length) = #[.int .u64 (0 : Nat), .int .i64 (0 : Nat), .int .i64 (meas I.T).b, .int .i64 (meas I.T).r, .int .i64 (meas I.T).n] := by
    have hg := last_get G xs ⟨0, I.T, []⟩
    unfold rbC
    rw [if_neg (by omega), htOf_of hg, txt_of hg]
  have HRB := Lib.hid hrb
  have hb0 : I.T.isEmpty = false := by cases e : I.T with | nil => rw [e] at h1; simp at h1 | cons => rfl
  have hn0 : (I.T.toArray.toList == ([] : List UInt8)) = false := by cases e : I.T with | nil => rw [e] at h1; simp at h1 | cons => rfl
  have P := Lib.hid p; have HLE := Lib.hid hle
  have hmf : ∀ (fn : Fn) (first cap : Array Value) (w : World), (Instr.makeFunc fn first cap).run Tryz.prog w = .ok (.func fn first cap) w := fun _ _ _ _ => rfl
  have hjl := p.core.jl
  rw [lfC_v]
  unfold ndV Ms.v at cM
  simp only [ownT, if_true] at cM
  have CM := Lib.hid cM
  clear p hnd hNI hrb h1 h16 hK hn cM
  generalize hT : I.T = T at *
  have HT := Lib.hid hT
  clear hT
  go_enter Tryz.func65, Tryz.ntmps65
  go_wp2_with fail
  refine (CM.out _).mono ?_
  rintro e w1 ⟨rfl, hb1⟩
  have hB1 := Lib.hid (bcall (bal (bal (bal (Below.refl _ _)))) hb1)
  have hz : (((w.alloc (.cells #[.int .u64 0, .int .i64 0, .int .i64 0, .int .i64 0, .int .i64 0, .string ⟨T.toArray⟩, .slice none 0 0] 76)).alloc (.cells #[.int .u64 0, .int .i64 0, .int .i64 0, .int .i64 0, .int .i64 0] 39)).alloc (.cells #[.int .i64 0, .string ⟨T.toArray⟩, .slice none 0 0] 84)).heap.size = w.heap.size + 3 := by simp
  have hr1 : Bk w1 (w.heap.size + 1) #[.int .u64 0, .int .i64 0, .int .i64 0, .int .i64 0, .int .i64 0] 39 := by
    have := (bal2' w (o := .cells #[.int .u64 0, .int .i64 0, .int .i64 0, .int .i64 0, .int .i64 0, .string ⟨T.toArray⟩, .slice none 0 0] 76) (cs := #[.int .u64 0, .int .i64 0, .int .i64 0, .int .i64 0, .int .i64 0]) (t := 39)).alloc (o := .cells #[.int .i64 0, .string ⟨T.toArray⟩, .slice none 0 0] 84)
    exact this.ext hb1 this.lt
  have hx1 : Bk w1 (w.heap.size + 1 + 1) #[.int .i64 0, .string ⟨T.toArray⟩, .slice none 0 0] 84 := by
    have := bal2' (w.alloc (.cells #[.int .u64 0, .int .i64 0, .int .i64 0, .int .i64 0, .int .i64 0, .string ⟨T.toArray⟩, .slice none 0 0] 76)) (o := .cells #[.int .u64 0, .int .i64 0, .int .i64 0, .int .i64 0, .int .i64 0] 39) (cs := #[.int .i64 0, .string ⟨T.toArray⟩, .slice none 0 0]) (t := 84)
    rw [World.size_alloc] at this
    exact this.ext hb1 (by omega)
  obtain ⟨r0, r1, r2, r3, r4, g0, g1, g2, g3, g4⟩ := hr1.five
  have hlr := hr1.lt
  have HR1 := Lib.hid hr1; have HX1 := Lib.hid hx1
  clear hb1 hz hr1 hx1 CM
  go_wp2_with fail
  have hw2 := (hB1.out.setCell (p := ⟨w.heap.size + 1, 2, none⟩) (by simp) (.int .i64 (meas T).b)).setCell (p := ⟨w.heap.size + 1, 3, none⟩) (by simp) (.int .i64 (meas T).r) |>.setCell (p := ⟨w.heap.size + 1, 4, none⟩) (by simp) (.int .i64 (meas T).n)
  have hxx : Bk (((w1.setCell ⟨w.heap.size + 1, 2, none⟩ (.int .i64 (meas T).b)).setCell ⟨w.heap.size + 1, 3, none⟩ (.int .i64 (meas T).r)).setCell ⟨w.heap.size + 1, 4, none⟩ (.int .i64 (meas T).n)) (w.heap.size + 1 + 1) #[.int .i64 0, .string ⟨T.toArray⟩, .slice none 0 0] 84 := ((HX1.out.other (by simp)).other (by simp)).other (by simp)
  have hrr : Bk (((w1.setCell ⟨w.heap.size + 1, 2, none⟩ (.int .i64 (meas T).b)).setCell ⟨w.heap.size + 1, 3, none⟩ (.int .i64 (meas T).r)).setCell ⟨w.heap.size + 1, 4, none⟩ (.int .i64 (meas T).n)) (w.heap.size + 1) #[.int .u64 0, .int .i64 0, .int .i64 (meas T).b, .int .i64 (meas T).r, .int .i64 (meas T).n] 39 := ((HR1.out.set 2 _).set 3 _).set 4 _
  refine (put_pen 84 #[.pointer (some ⟨w.heap.size + 1 + 1, 0, none⟩)] (fun b => b = w.heap.size + 1 ∨ b = w.heap.size + 1 + 1) (P.out.ext hw2) (by have := HLE.out; omega) HND.out (by rw [HRB.out]; exact hrr) (.inl rfl) (fun q => by have := (P.out.core.nlt _ q).2; omega) ?_ ?_).mono ?_
  · rintro b (rfl | rfl)
    · exact ⟨by have := P.out.below.size; omega, hrr.lt⟩
    · exact ⟨by have := P.out.below.size; omega, hxx.lt⟩
  · intro j W'' hk q1 q2 q3
    exact ⟨.inr (.inr (.inl rfl)), .inr (.inr (.inr (.inr rfl))), .inr (.inr (.inr (.inl rfl))), q1, q2, .inl ⟨w.heap.size + 1 + 1, .inr (.inl (.inr rfl)), q3, hk _ _ _ (.inr (.inr rfl)) (by unfold addS; decide) hxx, rfl, rfl⟩⟩
  · rintro e w5 ⟨rfl, j, N', hp5, hN5, hk5⟩
    have H5 := Lib.hid hp5; have HN5 := Lib.hid hN5; have HK5 := Lib.hid hk5; have HW2 := Lib.hid hw2
    clear hp5 hN5 hk5 hw2 hxx hrr
    go_wp2_with fail
    go_ret
    refine ⟨w.heap.size + 1, G.length + xs.length, [⟨0, T, []⟩], _, _, _, N', rfl, H5.out, by simp, fun p q => List.mem_append.2 (.inl q), HV.out, (KeepO.of_below HW2.out).trans HK5.out (fun _ q => .inl q), fun b hb => ?_⟩
    rcases HN5.out b hb with q | (rfl | rfl) | q
    · exact .inl q
    · exact .inr (by omega)
    · exact .inr (by omega)
    · exact .inr (by have := HW2.out.size; omega)

end Go.Proofs.YtclmjnobacepjaaGreat
