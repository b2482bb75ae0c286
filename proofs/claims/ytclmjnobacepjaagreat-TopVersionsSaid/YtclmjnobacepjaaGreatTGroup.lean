/- plan.group, plan.line, plan.New. -/
import Derived.Test.YtclmjnobacepjaaGreatJ09
import Derived.Deep.RegionLaw
namespace Go.Proofs.YtclmjnobacepjaaGreat
open Go.RowKit

section
variable {α : Type} {E : Enc α} {t e : TypeId} (w : World) {ops : Array Oper} {o : Oper} {a : Act} {K : Act → World → Prop} {Q : Exit → Act → World → Prop} {E0 : Prop}
/-- append of a slice that reads as l2 onto a row of the call's own, in a region that draws its order -/
theorem stepOwS (K0 : EOK E t e) (hgd : o.guard = none) (s xo : Operand) (ho : o.op = .call { callee := .builtin .append, args := #[s, xo], argTypes := #[t, t] })
    (B : Nat) (hB : B ≤ w.heap.size) (v : Value) (l : List α) (hsv : a.eval s = v) (hown : Ow E w B e v l) (x : Value) (l2 : List α) (hxv : a.eval xo = x) (hx : Sl E w x l2) (hl : l.length + l2.length ≤ 1000000)
    (h : ∀ A' c' w', Ow E w' B e (.slice A' (l.length + l2.length) c') (l ++ l2) → w.grownBy w' v.ownBlock → K (a.put o.dst (.slice A' (l.length + l2.length) c')) w') :
    if Region.wanted o (yielded ops a.tmps) = true then Oper.wp Tryz.prog o a w K Q else E0 := by
  obtain ⟨ht, i, z, hi, hz, hs, hzs, hby⟩ := K0
  have hbb : (l.length + l2.length) * i.bytes ≤ 140737488355328 := Nat.le_trans (Nat.mul_le_mul hl hby) (by omega)
  refine stepB_append w hgd s xo t t ho B hB e i z E.sz i.bytes ht hi hz hs rfl hzs E.pos v l.length (E.flat l) hsv hown x l2.length (E.flat l2) hxv (hx.src ht) (by unfold maxLen; omega) hbb ?_
  intro A' c' w' h1 h2 _ _
  refine h A' c' w' ?_ h2
  unfold Ow
  rw [List.length_append, E.flat_append]
  exact h1
end

/-- what a list of plans becomes: its only member, or one above them -/
def GrpR (G : Ar) (F : Nat → Prop) (w : World) (h : Nat) (Is : List PI) (c : TC) : Prop :=
  match Is with
  | [] => c = TC.zero
  | [I] => PV G F w h c I
  | I :: J :: r => PV G F w (h + 1) c (sumPI (I :: J :: r))

set_option maxHeartbeats 1000000 in
set_option maxRecDepth 100000 in
theorem group_nil (w : World) (A : Option Addr) (c : Nat) :
    Calls Tryz.prog 47 #[.slice A 0 c] w fun e w' => e = .returned TC.zero.v ∧ Below w.heap.size w w' := by
  rw [zero_v]
  go_enter Tryz.func47, Tryz.ntmps47
  go_wp2_with fail
  refine bodyPost_ret (v := .agg #[.int .u64 0, .int .i64 0, .int .i64 0, .int .i64 0, .int .i64 0, .string ⟨#[]⟩, .slice none 0 0]) (by simp [results, Tryz.results47, go_sem]) rfl ⟨rfl, ?_⟩
  exact bal (Below.refl _ _)

set_option maxHeartbeats 1000000 in
set_option maxRecDepth 100000 in
theorem group_one (w : World) (v : Value) (m : TC) (h : Sl tcE w v [m]) :
    Calls Tryz.prog 47 #[v] w fun e w' => e = .returned m.v ∧ Below w.heap.size w w' := by
  obtain ⟨b, off, cap, rfl, hb, hcc⟩ := h.tc (k := 0) (by simp)
  obtain ⟨e0, e1, e2, e3, e4, e5, e6⟩ := hcc w (Below.refl _ _)
  simp only [List.getElem_cons_zero, Nat.zero_mul, Nat.add_zero] at e0 e1 e2 e3 e4 e5 e6
  clear hcc h
  obtain ⟨mo, mh, mb, mr, mn, mt, mp, ml, mc⟩ := m
  unfold TC.v
  simp only at *
  simp only [List.length_cons, List.length_nil]
  go_enter Tryz.func47, Tryz.ntmps47
  go_wp2_with fail
  refine bodyPost_ret (v := .agg #[.int .u64 mo, .int .i64 mh, .int .i64 mb, .int .i64 mr, .int .i64 mn, .string ⟨mt.toArray⟩, .slice mp ml mc]) (by simp [results, Tryz.results47, go_sem]) rfl ⟨rfl, ?_⟩
  exact bal (Below.refl _ _)

set_option maxHeartbeats 2000000 in
set_option maxRecDepth 100000 in
theorem group_many (w : World) (v : Value) (l : List TC) (h : Sl tcE w v l) (h2 : 2 ≤ l.length) (hl : l.length ≤ 1000) (hh : ∀ m, l[0]? = some m → m.ht ≤ 20) :
    Calls Tryz.prog 47 #[v] w fun e w' => ∃ A c, e = .returned (inC (match l[0]? with | some m => m.ht | none => 0) A l.length c).v ∧ Sl tcE w' (.slice A l.length c) l ∧ (∀ g, (Value.slice A l.length c).ownBlock = some g → w.heap.size ≤ g) ∧ Below w.heap.size w w' := by
  have hp : 0 < l.length := by omega
  obtain ⟨b, off, cap, rfl, hb, hcc⟩ := h.tc hp
  obtain ⟨e0, e1, e2, e3, e4, e5, e6⟩ := hcc w (Below.refl _ _)
  have hh0 := hh l[0] (List.getElem?_eq_getElem hp)
  rw [List.getElem?_eq_getElem hp]
  have n0 : ((l.length : Int) == 0) = false := by rw [beq_eq_false_iff_ne]; omega
  have n1 : ((l.length : Int) == 1) = false := by rw [beq_eq_false_iff_ne]; omega
  have H := Lib.hid h
  clear hcc h hh e0 e2 e3 e4 e5 e6
  simp only [Nat.zero_mul, Nat.add_zero] at e1
  generalize hq : l[0].ht = ht at *
  have HQ := Lib.hid hq; clear hq
  have hw1 := Lib.hid (IntWalk.i64_in ((ht : Int) + 1) ⟨by omega, by omega⟩)
  have hi : (ht : Int) ≤ 20 := by omega
  simp only
  go_enter Tryz.func47, Tryz.ntmps47
  go_upto_region 5 with (fail)
  have hk1 := (Bk.new w #[.int .u64 0, .int .i64 0, .int .i64 0, .int .i64 0, .int .i64 0, .string ⟨#[]⟩, .slice none 0 0] 76).drew
  have HK := Lib.hid hk1; clear hk1
  have H1 := Lib.hid ((H.out.alloc (.cells #[.int .u64 0, .int .i64 0, .int .i64 0, .int .i64 0, .int .i64 0, .string ⟨#[]⟩, .slice none 0 0] 76)).ext (bdr (Below.refl _ _)))
  have HB1 := Lib.hid (bdr (bal (o := .cells #[.int .u64 0, .int .i64 0, .int .i64 0, .int .i64 0, .int .i64 0, .string ⟨#[]⟩, .slice none 0 0] 76) (Below.refl w.heap.size w)))
  have e1' : (w.alloc (.cells #[.int .u64 0, .int .i64 0, .int .i64 0, .int .i64 0, .int .i64 0, .string ⟨#[]⟩, .slice none 0 0] 76)).drew.cell? ⟨b, off + 1, none⟩ = some (.int .i64 ht) := Lib.cell?_alloc_some _ e1
  have hsz1 : (w.alloc (.cells #[.int .u64 0, .int .i64 0, .int .i64 0, .int .i64 0, .int .i64 0, .string ⟨#[]⟩, .slice none 0 0] 76)).drew.heap.size = w.heap.size + 1 := by rw [show (w.alloc (.cells #[.int .u64 0, .int .i64 0, .int .i64 0, .int .i64 0, .int .i64 0, .string ⟨#[]⟩, .slice none 0 0] 76)).drew.heap.size = (w.alloc (.cells #[.int .u64 0, .int .i64 0, .int .i64 0, .int .i64 0, .int .i64 0, .string ⟨#[]⟩, .slice none 0 0] 76)).heap.size from rfl]; simp
  have HSZ := Lib.hid hsz1; clear hsz1
  have hm : ∀ W : World, Ow tcE (W.alloc (.cells #[] 76)) W.heap.size 76 (.slice (some ⟨W.heap.size, 0, none⟩) 0 0) [] := fun W => World.ownsRow_made W #[] 0 (Nat.le_refl _) (by simp [maxLen]) (by simp)
  have HM := Lib.hid hm; clear hm
  generalize hW1 : (w.alloc (.cells #[.int .u64 0, .int .i64 0, .int .i64 0, .int .i64 0, .int .i64 0, .string ⟨#[]⟩, .slice none 0 0] 76)) = W1 at *
  have hbW : b < W1.heap.size := by have h9 : W1.heap.size = w.heap.size + 1 := HSZ.out; omega
  have hwW : w.heap.size < W1.heap.size := by have h9 : W1.heap.size = w.heap.size + 1 := HSZ.out; omega
  have e1'' : W1.cell? ⟨b, off + 1, none⟩ = some (.int .i64 ht) := e1'
  clear hW1 e1 e1'
  go_region_law (first
    | (refine stepOwS _ tcOK rfl (.tmp 20) (.tmp 21) rfl W1.heap.size ?_ (.slice (some ⟨W1.heap.size, 0, none⟩) 0 0) [] rfl ?_ _ l rfl ?_ ?_ ?_
       · simp
       · exact HM.out W1
       · exact Sl.alloc H1.out _
       · simp; omega
       intro A8 c8 w8 hown8 hg8
       have HO8 := Lib.hid (show Ow tcE w8 W1.heap.size 76 (.slice A8 l.length c8) l from by simpa using hown8)
       have HG8 := Lib.hid hg8
       obtain ⟨r0, r1, r2, r3, r4, r5, r6, g0, g1, g2, g3, g4, g5, g6⟩ := ((HK.out.alloc (o := .cells #[] 76)).grown hg8 (fun e => by have q := Option.some.inj e; simp only at q; omega)).seven
       have e8 : w8.cell? ⟨b, off + 1, none⟩ = some (.int .i64 ht) := hg8.cell (Lib.cell?_alloc_some _ e1'') (fun e => by have q := Option.some.inj e; simp only at q; omega)
       clear hown8 hg8))
  all_goals
    go_wp2_with fail
    have hB8 := (HB1.out.alloc (o := .cells #[] 76) (by show w.heap.size ≤ W1.heap.size; omega)).grown HG8.out (by simp; omega) (fun k hk => by have := Option.some.inj hk; simp only at this; omega)
    refine bodyPost_ret (v := .agg #[.int .u64 0, .int .i64 ((ht : Int) + 1), .int .i64 0, .int .i64 0, .int .i64 0, .string ⟨#[]⟩, .slice A8 l.length c8]) (by simp [results, Tryz.results47, go_sem, r0, r1, r2, r3, r4, r5, r6, hw1.out]) rfl ⟨A8, c8, by rw [HQ.out]; rfl, ?_, ?_, ?_⟩
    · exact (((((((HO8.out.set hwW _).set hwW _).set hwW _).set hwW _).set hwW _).set hwW _).set hwW _).sl
    · exact fun g hg => Nat.le_trans (by omega) (HO8.out.lt g hg).1
    · refine bset (bset (bset (bset (bset (bset (bset hB8 ?_) ?_) ?_) ?_) ?_) ?_) ?_ <;> simp

end Go.Proofs.YtclmjnobacepjaaGreat
