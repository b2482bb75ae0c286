/- rope.Pen: its jobs; put. -/
import Derived.Test.YtclmjnobacepjaaGreatJ24
namespace Go.Proofs.YtclmjnobacepjaaGreat
open Go.RowKit

/-- a job: the blocks of its closure's variables -/
structure Jb where
  p : Nat
  c : Nat
  r : Nat
def Jb.v (j : Jb) : Value := .func (.func 104) #[] #[.pointer (some ⟨j.p, 0, none⟩), .pointer (some ⟨j.c, 0, none⟩), .pointer (some ⟨j.r, 0, none⟩)]
def jbE : Enc Jb := ⟨1, by decide, fun j => [j.v], fun _ => rfl, by intro x u h; simp at h; subst h; rfl⟩
def ptE : Enc Nat := ⟨1, by decide, fun b => [.pointer (some ⟨b, 0, none⟩)], fun _ => rfl, by intro x u h; simp at h; subst h; rfl⟩
theorem infoJb : (Tryz.prog.info? 154).map (fun i => (i.zero, i.size, i.bytes)) = some (some .nilFunc, 1, 8) := by kernel_rfl
theorem infoPt : (Tryz.prog.info? 130).map (fun i => (i.zero, i.size, i.bytes)) = some (some (.pointer none), 1, 8) := by kernel_rfl
theorem jbOK : EOK jbE 129 154 := EOK.mk' Tryz.underlying129 infoJb rfl rfl (by omega)
theorem ptOK : EOK ptE 172 130 := EOK.mk' Tryz.underlying172 infoPt rfl rfl (by omega)
/-- blocks of B and above keep, but for those of types in S -/
def KeepT (S : TypeId → Prop) (B : Nat) (w w' : World) : Prop := w.heap.size ≤ w'.heap.size ∧ ∀ b cur t, B ≤ b → ¬ S t → Bk w b cur t → Bk w' b cur t
theorem KeepT.refl (S : TypeId → Prop) (B : Nat) (w : World) : KeepT S B w w := ⟨Nat.le_refl _, fun _ _ _ _ _ h => h⟩
theorem KeepT.trans {S : TypeId → Prop} {B : Nat} {a b c : World} (h : KeepT S B a b) (h' : KeepT S B b c) : KeepT S B a c := ⟨Nat.le_trans h.1 h'.1, fun n cur t hb ht q => h'.2 n cur t hb ht (h.2 n cur t hb ht q)⟩
theorem KeepT.of_below {S : TypeId → Prop} {B : Nat} {w w' : World} (h : Below w.heap.size w w') : KeepT S B w w' := ⟨h.size, fun _ _ _ _ _ hb => hb.ext h hb.lt⟩
theorem Ow.keepT {α : Type} {E : Enc α} {S : TypeId → Prop} {B0 : Nat} {w w' : World} {B : Nat} {e : TypeId} {v : Value} {l : List α} (h : Ow E w B e v l) (hk : KeepT S B0 w w') (hB : B0 ≤ B) (he : ¬ S e) : Ow E w' B e v l := by
  refine h.kept fun g hg => ?_
  have hlt := h.lt g hg
  rcases h.2 with ⟨rfl, _⟩ | ⟨g', cap, cur, rfl, _, hg', _⟩
  · cases hg
  · have e2 : g' = g := Option.some.inj hg
    subst e2
    exact (hk.2 g' cur _ (Nat.le_trans hB hlt.1) he hg').trans hg'.symm
/-- what add changes -/
def addS (t : TypeId) : Prop := t = 132 ∨ t = 154
theorem new_slB {α : Type} {E : Enc α} {w : World} {x : α} {cs : List Value} (hcs : cs = E.cells x) (t : TypeId) : Sl E (w.alloc (.cells cs.toArray t)) (.slice (some ⟨w.heap.size, 0, none⟩) 1 1) [x] := by
  subst hcs
  refine ⟨_, 1, rfl, by simp, by simp [maxLen], fun _ => ⟨w.heap.size, 0, rfl, by simp, fun i j y u hy hu => ?_⟩⟩
  cases i with
  | zero =>
    simp only [List.getElem?_cons_zero, Option.some.injEq] at hy
    subst hy
    have := new_cells (E := E) w x t j u hu
    simpa using this
  | succ i => simp at hy

section
variable {α : Type} {E : Enc α} {t e : TypeId} (w : World) {ops : Array Oper} {o : Oper} {a : Act} {K : Act → World → Prop} {Q : Exit → Act → World → Prop} {E0 : Prop}
/-- append of a slice that reads as l2 onto a row of the call's own, in a region that draws its order; and where the row then lies -/
theorem stepOwSb (K0 : EOK E t e) (hgd : o.guard = none) (s xo : Operand) (ho : o.op = .call { callee := .builtin .append, args := #[s, xo], argTypes := #[t, t] })
    (B : Nat) (hB : B ≤ w.heap.size) (v : Value) (l : List α) (hsv : a.eval s = v) (hown : Ow E w B e v l) (x : Value) (l2 : List α) (hxv : a.eval xo = x) (hx : Sl E w x l2) (hl : l.length + l2.length ≤ 1000000)
    (h : ∀ A' c' w', Ow E w' B e (.slice A' (l.length + l2.length) c') (l ++ l2) → w.grownBy w' v.ownBlock → ((Value.slice A' (l.length + l2.length) c').ownBlock = v.ownBlock ∨ (Value.slice A' (l.length + l2.length) c').ownBlock = some w.heap.size) → K (a.put o.dst (.slice A' (l.length + l2.length) c')) w') :
    if Region.wanted o (yielded ops a.tmps) = true then Oper.wp Tryz.prog o a w K Q else E0 := by
  obtain ⟨ht, i, z, hi, hz, hs, hzs, hby⟩ := K0
  have hbb : (l.length + l2.length) * i.bytes ≤ 140737488355328 := Nat.le_trans (Nat.mul_le_mul hl hby) (by omega)
  refine stepB_append w hgd s xo t t ho B hB e i z E.sz i.bytes ht hi hz hs rfl hzs E.pos v l.length (E.flat l) hsv hown x l2.length (E.flat l2) hxv (hx.src ht) (by unfold maxLen; omega) hbb ?_
  intro A' c' w' h1 h2 h3 _
  refine h A' c' w' ?_ h2 h3
  unfold Ow
  rw [List.length_append, E.flat_append]
  exact h1
end
theorem le_drew {B : Nat} {W : World} (o : Obj) (h : B ≤ W.heap.size) : B ≤ (W.alloc o).drew.heap.size := by
  have : (W.alloc o).drew.heap.size = W.heap.size + 1 := World.size_alloc W o
  omega

def PutV (w : World) (bp : Nat) (pa q : Value) (fn : FuncId) (cf : Array Value) (rb : Nat) (js : List Jb) (B : Nat) (row : Option Nat) (w' : World) : Prop := ∃ j Av' cc', Bk w' bp #[pa, .slice Av' (js.length + 1) cc', q] 132 ∧ Ow jbE w' B 154 (.slice Av' (js.length + 1) cc') (js ++ [j]) ∧
      Bk w' j.p #[.pointer (some ⟨bp, 0, none⟩)] 126 ∧ Bk w' j.r #[.pointer (some ⟨rb, 0, none⟩)] 130 ∧ Bk w' j.c #[.func (.func fn) #[] cf] 171 ∧ w.heap.size ≤ j.p ∧ w.heap.size ≤ j.r ∧ w.heap.size ≤ j.c ∧ KeepT addS B w w' ∧ Below B w w' ∧
      ((Value.slice Av' (js.length + 1) cc').ownBlock = row ∨ ∀ g, (Value.slice Av' (js.length + 1) cc').ownBlock = some g → w.heap.size ≤ g) ∧ ∀ b, b < w.heap.size → b ≠ bp → (∀ g, row = some g → g ≠ b) → w'.heap[b]? = w.heap[b]?

set_option maxHeartbeats 2000000 in
set_option maxRecDepth 100000 in
theorem put_any (bp : Nat) (pa q : Value) (fn : FuncId) (cf : Array Value) (rb : Nat) (Av : Option Addr) (cc : Nat) (js : List Jb) (B : Nat) (w : World) (hp : Bk w bp #[pa, .slice Av js.length cc, q] 132) (ho : Ow jbE w B 154 (.slice Av js.length cc) js) (hB : B ≤ bp) (hl : js.length ≤ 1000) :
    Calls Tryz.prog 83 #[.pointer (some ⟨bp, 0, none⟩), .pointer (some ⟨rb, 0, none⟩), .func (.func fn) #[] cf] w fun e w' => e = .returned (.tuple #[]) ∧ PutV w bp pa q fn cf rb js B (Value.slice Av js.length cc).ownBlock w' := by
  have hmf : ∀ (fn : Fn) (first cap : Array Value) (w : World), (Instr.makeFunc fn first cap).run Tryz.prog w = .ok (.func fn first cap) w := fun _ _ _ _ => rfl
  have HP := Lib.hid hp; have HO := Lib.hid ho; have HL := Lib.hid hl
  have hlb := hp.lt
  clear hp ho
  go_enter Tryz.func83, Tryz.ntmps83
  go_upto_region 1 with (fail)
  have hb1 : Below w.heap.size w (((w.alloc (.cells #[.pointer (some ⟨bp, 0, none⟩)] 126)).alloc (.cells #[.pointer (some ⟨rb, 0, none⟩)] 130)).alloc (.cells #[.func (.func fn) #[] cf] 171)) := bal (bal (bal (Below.refl _ _)))
  have hz1 : (((w.alloc (.cells #[.pointer (some ⟨bp, 0, none⟩)] 126)).alloc (.cells #[.pointer (some ⟨rb, 0, none⟩)] 130)).alloc (.cells #[.func (.func fn) #[] cf] 171)).heap.size = w.heap.size + 3 := by simp
  have hk0 : Bk (((w.alloc (.cells #[.pointer (some ⟨bp, 0, none⟩)] 126)).alloc (.cells #[.pointer (some ⟨rb, 0, none⟩)] 130)).alloc (.cells #[.func (.func fn) #[] cf] 171)) w.heap.size #[.pointer (some ⟨bp, 0, none⟩)] 126 := (Bk.new _ _ _).alloc.alloc
  have hk1 : Bk (((w.alloc (.cells #[.pointer (some ⟨bp, 0, none⟩)] 126)).alloc (.cells #[.pointer (some ⟨rb, 0, none⟩)] 130)).alloc (.cells #[.func (.func fn) #[] cf] 171)) (w.heap.size + 1) #[.pointer (some ⟨rb, 0, none⟩)] 130 := (bal2' w).alloc
  have hk2 : Bk (((w.alloc (.cells #[.pointer (some ⟨bp, 0, none⟩)] 126)).alloc (.cells #[.pointer (some ⟨rb, 0, none⟩)] 130)).alloc (.cells #[.func (.func fn) #[] cf] 171)) (w.heap.size + 2) #[.func (.func fn) #[] cf] 171 := by
    have := bal2' (w.alloc (.cells #[.pointer (some ⟨bp, 0, none⟩)] 126)) (o := .cells #[.pointer (some ⟨rb, 0, none⟩)] 130) (cs := #[.func (.func fn) #[] cf]) (t := 171)
    rw [World.size_alloc] at this
    exact this
  have hb1' := HP.out.ext hb1 hlb
  have ho1 := HO.out.ext hb1 (Nat.le_refl _)
  generalize hW1 : (((w.alloc (.cells #[.pointer (some ⟨bp, 0, none⟩)] 126)).alloc (.cells #[.pointer (some ⟨rb, 0, none⟩)] 130)).alloc (.cells #[.func (.func fn) #[] cf] 171)) = W1 at *
  clear hW1
  obtain ⟨p0, p1, p2, pf0, pf1, pf2⟩ := hb1'.three
  obtain ⟨a0, -⟩ := hk0.one
  have hlp := hb1'.lt
  have hl0 := hk0.lt
  have HK0 := Lib.hid hk0; have HK1 := Lib.hid hk1; have HK2 := Lib.hid hk2; have HPN := Lib.hid hb1'; have HON := Lib.hid ho1; have HB1 := Lib.hid hb1
  have hBw : B ≤ W1.heap.size := by omega
  have hnsl : ∀ (W : World), Sl jbE (W.alloc (.cells #[.func (.func 104) #[] #[.pointer (some ⟨w.heap.size, 0, none⟩), .pointer (some ⟨w.heap.size + 1 + 1, 0, none⟩), .pointer (some ⟨w.heap.size + 1, 0, none⟩)]] 154)) (.slice (some ⟨W.heap.size, 0, none⟩) 1 1) [(⟨w.heap.size, w.heap.size + 1 + 1, w.heap.size + 1⟩ : Jb)] := fun W => new_slB (E := jbE) (x := (⟨w.heap.size, w.heap.size + 1 + 1, w.heap.size + 1⟩ : Jb)) (cs := [.func (.func 104) #[] #[.pointer (some ⟨w.heap.size, 0, none⟩), .pointer (some ⟨w.heap.size + 1 + 1, 0, none⟩), .pointer (some ⟨w.heap.size + 1, 0, none⟩)]]) rfl _
  have HN := Lib.hid hnsl
  have HZ := Lib.hid hz1
  clear hb1 hk0 hk1 hk2 hb1' ho1 hnsl HP HO hz1
  have harm : ∀ w8, (W1.alloc (.cells #[.func (.func 104) #[] #[.pointer (some ⟨w.heap.size, 0, none⟩), .pointer (some ⟨w.heap.size + 1 + 1, 0, none⟩), .pointer (some ⟨w.heap.size + 1, 0, none⟩)]] 154)).drew.grownBy w8 (Value.slice Av js.length cc).ownBlock → Bk w8 bp #[pa, .slice Av js.length cc, q] 132 ∧ Bk w8 w.heap.size #[.pointer (some ⟨bp, 0, none⟩)] 126 := fun w8 hg8 =>
    ⟨HPN.out.alloc.drew.grown hg8 (fun e => (Ow.alloc HON.out (.cells #[] 3)).ne_bk HPN.out.alloc (by decide) bp e.symm rfl), HK0.out.alloc.drew.grown hg8 (fun e => (Ow.alloc HON.out (.cells #[] 3)).ne_bk HK0.out.alloc (by decide) _ e.symm rfl)⟩
  have HARM := Lib.hid harm
  clear harm
  have hfin : ∀ A8 c8 w8, (W1.alloc (.cells #[.func (.func 104) #[] #[.pointer (some ⟨w.heap.size, 0, none⟩), .pointer (some ⟨w.heap.size + 1 + 1, 0, none⟩), .pointer (some ⟨w.heap.size + 1, 0, none⟩)]] 154)).drew.grownBy w8 (Value.slice Av js.length cc).ownBlock → Ow jbE w8 B 154 (.slice A8 (js.length + 1) c8) (js ++ [(⟨w.heap.size, w.heap.size + 1 + 1, w.heap.size + 1⟩ : Jb)]) → ((Value.slice A8 (js.length + 1) c8).ownBlock = (Value.slice Av js.length cc).ownBlock ∨ (Value.slice A8 (js.length + 1) c8).ownBlock = some (W1.alloc (.cells #[.func (.func 104) #[] #[.pointer (some ⟨w.heap.size, 0, none⟩), .pointer (some ⟨w.heap.size + 1 + 1, 0, none⟩), .pointer (some ⟨w.heap.size + 1, 0, none⟩)]] 154)).drew.heap.size) →
      PutV w bp pa q fn cf rb js B (Value.slice Av js.length cc).ownBlock (w8.setCell ⟨bp, 1, none⟩ (.slice A8 (js.length + 1) c8)) := fun A8 c8 w8 hg8 ho8 hr8 => by
    have hz8 := hg8.size
    have hz9 := HZ.out
    have hz7 : W1.heap.size + 1 ≤ w8.heap.size := by
      have : (W1.alloc (.cells #[.func (.func 104) #[] #[.pointer (some ⟨w.heap.size, 0, none⟩), .pointer (some ⟨w.heap.size + 1 + 1, 0, none⟩), .pointer (some ⟨w.heap.size + 1, 0, none⟩)]] 154)).drew.heap.size = W1.heap.size + 1 := World.size_alloc W1 _
      omega
    have hp8 := (HARM.out _ hg8).1
    have mv : ∀ b cs t, Bk W1 b cs t → 154 ≠ t → 132 ≠ t → Bk (w8.setCell ⟨bp, 1, none⟩ (.slice A8 (js.length + 1) c8)) b cs t := fun b cs t h hne hne2 =>
      (h.alloc.drew.grown hg8 (fun e => (Ow.alloc HON.out (.cells #[] 3)).ne_bk h.alloc hne b e.symm rfl)).other (fun e => by
        have h1 : b ≠ bp := bk_ne h HPN.out (fun e => hne2 e.symm)
        exact h1 e)
    refine ⟨⟨w.heap.size, w.heap.size + 1 + 1, w.heap.size + 1⟩, A8, c8, hp8.set 1 _, ?_, mv _ _ _ HK0.out (by decide) (by decide), mv _ _ _ HK1.out (by decide) (by decide), mv _ _ _ HK2.out (by decide) (by decide), by simp, by simp, by simp; omega, ?_, ?_, ?_, ?_⟩
    · exact ho8.kept fun g hg => Below.heap_setCell _ _ _ _ (ho8.ne_bk hp8 (by decide) g hg)
    · refine ⟨by simp; omega, fun b cur t hb ht h => mv b cur t (h.ext HB1.out h.lt) (fun e => ht (.inr e.symm)) (fun e => ht (.inl e.symm))⟩
    · have hq : Below B w (W1.alloc (.cells #[.func (.func 104) #[] #[.pointer (some ⟨w.heap.size, 0, none⟩), .pointer (some ⟨w.heap.size + 1 + 1, 0, none⟩), .pointer (some ⟨w.heap.size + 1, 0, none⟩)]] 154)) := (HB1.out.mono (by omega)).alloc hBw _
      exact Below.setCell (p := ⟨bp, 1, none⟩) (hq.drew.grown hg8 (le_drew _ hBw) (fun k hk => (HON.out.lt k hk).1)) hB _
    · refine hr8.imp id (fun e g hg => ?_)
      rw [e] at hg
      have := Option.some.inj hg
      have := World.size_alloc W1 (.cells #[.func (.func 104) #[] #[.pointer (some ⟨w.heap.size, 0, none⟩), .pointer (some ⟨w.heap.size + 1 + 1, 0, none⟩), .pointer (some ⟨w.heap.size + 1, 0, none⟩)]] 154)
      have h9 : W1.heap.size + 1 = g := by rw [← this]; assumption
      omega
    · intro b hb hne hrow
      rw [Below.heap_setCell _ _ _ _ hne]
      refine (hg8.block b (le_drew (B := b + 1) _ (by omega)) (fun e => hrow b e.symm rfl)).trans ?_
      exact (Below.heap_alloc W1 _ b (by omega)).trans (HB1.out.block b hb)
  have FIN := Lib.hid hfin
  clear hfin
  go_region_law (first
    | (refine stepOwSb _ jbOK rfl (.tmp 10) (.tmp 12) rfl B ?_ (.slice Av js.length cc) js rfl ?_ _ [(⟨w.heap.size, w.heap.size + 1 + 1, w.heap.size + 1⟩ : Jb)] rfl ?_ ?_ ?_
       · exact le_drew _ hBw
       · exact Ow.alloc HON.out _
       · exact HN.out W1
       · exact (show js.length + 1 ≤ 1000000 by omega)
       intro A8 c8 w8 hown8 hg8 hr8
       have HR8 := Lib.hid hr8
       have HO8 := Lib.hid hown8
       have HG8 := Lib.hid hg8
       obtain ⟨r0, r1, r2, g0, g1, g2⟩ := (HARM.out w8 hg8).1.three
       have hlp8 := (HARM.out w8 hg8).1.lt
       obtain ⟨b0, -⟩ := (HARM.out w8 hg8).2.one
       have hlb8 := (HARM.out w8 hg8).2.lt
       clear hown8 hg8 hr8))
  all_goals
    go_wp2_with fail
    exact bodyPost_end (v := .tuple #[]) (by simp [results, Tryz.results83, go_sem]) rfl ⟨rfl, FIN.out _ _ _ HG8.out HO8.out HR8.out⟩

end Go.Proofs.YtclmjnobacepjaaGreat
