/- package node: sum, Check, Measure at well formed nodes. -/
import Derived.Test.YtclmjnobacepjaaGreatTNode
import Derived.Test.YtclmjnobacepjaaGreatTAdd
import Derived.Test.YtclmjnobacepjaaGreatJ03
import Derived.StillTailTactics
import Derived.BigRegion
namespace Go.Proofs.YtclmjnobacepjaaGreat
open Go.RowKit

theorem bal2 (w : World) {o : Obj} {cs : Array Value} {t : TypeId} {w2 : World} (hb : Below ((w.alloc o).alloc (.cells cs t)).heap.size ((w.alloc o).alloc (.cells cs t)) w2) : Bk w2 (w.heap.size + 1) cs t := by
  have := (Bk.new (w.alloc o) cs t).ext hb (by simp)
  rwa [World.size_alloc] at this

theorem NodeIn.sum {G : Ar} {i : Nat} {x : Nd} {kv : Value} {w : World} (h : NodeIn G i x kv w) (h1 : x.ht ≠ 0) : sumM ((x.ks.map (kdOf G)).map Kd.m) = meas x.T := by
  rcases h.nd with ⟨h0, _⟩ | ⟨ht, hh, _, _, _, hT⟩
  · exact absurd h0 h1
  · rw [hT, ← sumM_meas]
    simp [kdOf, Function.comp_def]

set_option maxHeartbeats 1600000 in
set_option maxRecDepth 100000 in
theorem nsum_any (G : Ar) (i : Nat) (x : Nd) (kv : Value) (w : World) (h : NodeIn G i x kv w) :
    Calls Tryz.prog 75 #[ndV x kv] w fun e w' => e = .returned (meas x.T).v ∧ Below w.heap.size w w' := by
  by_cases h0 : x.ht = 0
  · have hkv : ownT x = x.T := by rw [ownT, if_pos h0]
    have hT := h.hT
    unfold ndV
    rw [hkv, h0]
    have cO := Lib.hid (fun w => of_any x.T (by omega) w)
    clear h hkv h0 hT
    generalize x.T = T at *
    generalize hm : meas T = m at *
    have HM := Lib.hid hm; clear hm
    unfold Ms.v at *
    go_enter Tryz.func75, Tryz.ntmps75
    go_wp2_with (go_at_call 92; refine (cO.out _).mono ?_; rintro e w' ⟨rfl, hb⟩; obtain ⟨c0, c1, c2, f0, f1, f2⟩ := (bal2 w hb).three)
    refine bodyPost_ret (v := .agg #[.int .i64 m.b, .int .i64 m.r, .int .i64 m.n]) (by simp [results, Tryz.results75, go_sem, c0, c1, c2]) rfl ⟨rfl, ?_⟩
    refine bset (bset (bset (bcall (bal (bal (Below.refl _ _))) hb) ?_) ?_) ?_ <;> simp
  · have hsum := h.sum h0
    have hsl := h.sl
    obtain ⟨ht, hh, hk4, hkids⟩ : ∃ ht, x.ht = ht + 1 ∧ x.ks.length ≤ 4 ∧ ∀ k ∈ x.ks, (txt G k).length ≤ 65536 := by
      rcases h.nd with ⟨q, _⟩ | ⟨ht, hh, _, h4, _, hT⟩
      · exact absurd q h0
      · refine ⟨ht, hh, h4, fun k hk => ?_⟩
        have := h.hT
        rw [hT] at this
        exact Nat.le_trans (flat_len_mem (List.mem_map_of_mem hk)) this
    have hms : ∀ m ∈ (x.ks.map (kdOf G)).map Kd.m, m.b ≤ 1000000 ∧ m.r ≤ 1000000 ∧ m.n ≤ 1000000 := by
      intro m hm
      simp only [List.map_map, List.mem_map] at hm
      obtain ⟨k, hk, rfl⟩ := hm
      have h1 := hkids k hk
      have h2 := meas_rb (txt G k)
      have h3 := meas_nr (txt G k)
      have h4 := meas_b (txt G k)
      show (meas (txt G k)).b ≤ _ ∧ (meas (txt G k)).r ≤ _ ∧ (meas (txt G k)).n ≤ _
      omega
    have hkl : (x.ks.map (kdOf G)).length ≤ 4 := by rw [List.length_map]; exact hk4
    obtain ⟨A, cap, hkv, hc1, hc2, -⟩ := id hsl
    subst hkv
    unfold ndV ownT
    rw [hh, if_neg (by omega)]
    have hht : (((ht + 1 : Nat) : Int)) = (ht : Int) + 1 := by omega
    rw [hht]
    have he0 : ((ht : Int) + 1 == 0) = false := by rw [beq_eq_false_iff_ne]; omega
    have HS := Lib.hid hsl
    have cA := Lib.hid (fun v w (q : Sl msE w v ((x.ks.map (kdOf G)).map Kd.m)) => add_any v _ w q hms (by rw [List.length_map]; omega))
    have HSU := Lib.hid hsum
    clear hsl hms h hkids hk4 hh hht hsum h0
    generalize hm : meas x.T = m at *
    have HM := Lib.hid hm; clear hm
    generalize x.ks.map (kdOf G) = L at *
    unfold Ms.v at *
    go_enter Tryz.func75, Tryz.ntmps75
    go_wp2_with fail
    go_loopw [3, 15] (fun vo i wr => ∃ (k : Nat) (A5 : Option Addr) (c5 : Nat), k ≤ L.length ∧ i = .int .i64 k ∧ vo = .slice A5 k c5 ∧ Hid (Ow msE wr (w.heap.size + 1 + 1) 37 (.slice A5 k c5) ((L.take k).map Kd.m)) ∧ Hid (Bk wr (w.heap.size + 1) #[.int .i64 0, .int .i64 0, .int .i64 0] 37) ∧ Hid (Below w.heap.size w wr) ∧ w.heap.size + 1 + 1 ≤ wr.heap.size) (fun _ i _ => L.length - (intOf i).toNat)
    case atStart => exact ⟨0, none, 0, by omega, rfl, rfl, Lib.hid (Ow.nil _ _ _ _), Lib.hid (by have := Bk.new (w.alloc (.cells #[.int .i64 ((ht : Int) + 1), .string ⟨([] : List UInt8).toArray⟩, .slice A L.length cap] 84)) #[.int .i64 0, .int .i64 0, .int .i64 0] 37; rw [World.size_alloc] at this; exact this), Lib.hid (bal (bal (Below.refl _ _))), by simp⟩
    case round =>
      obtain ⟨k, A5, c5, hk, rfl, rfl, hO, hR, hB, hsz⟩ := hrel
      by_cases hlt : k < L.length
      · obtain ⟨b, off, cap', hv, hb, hcc⟩ := HS.out.kd hlt
        obtain ⟨rfl, rfl⟩ : A = some ⟨b, off, none⟩ ∧ cap = cap' := by injection hv with e1 e2 e3; exact ⟨e1, e3⟩
        obtain ⟨c0, c1, c2, c3⟩ := hcc wr hB.out
        have hki : (k : Int) < (L.length : Int) := by omega
        have htk := Lib.hid (show (L.take (k + 1)).map Kd.m = (L.take k).map Kd.m ++ [L[k].m] by rw [snoc_take L k hlt, List.map_append]; rfl)
        have hln := Lib.hid (show ((L.take k).map Kd.m).length = k by rw [List.length_map, List.length_take]; omega)
        have hk4 : k ≤ 4 := by omega
        clear hv hcc
        generalize L[k] = q at *
        obtain ⟨qa, qm⟩ := q
        simp only at *
        go_wp2_with (at_builtin; refine Hid.out ?_)
        refine Lib.hid ?_
        refine wpOw1 _ msOK rfl (.tmp 19) (.tmp 22) rfl (w.heap.size + 1 + 1) (by simp; omega) _ ((L.take k).map Kd.m) rfl ((hO.out.alloc _).alloc _) qm (wr.heap.size + 1) 1 rfl (new_cells2 _ _ _ _) (by rw [hln.out]; omega) ?_
        rw [hln.out]
        intro A8 c8 w8 hown8 hg8
        have HO8 := Lib.hid hown8
        have HB8 := Lib.hid (((hB.out.alloc (by omega) _).alloc (by simp; omega) _).grown hg8 (by simp; omega) (fun g hg => by have := (hO.out.lt g hg).1; omega))
        have HR8 := Lib.hid ((hR.out.alloc.alloc).grown hg8 (fun e => by have := (hO.out.lt _ e.symm).1; omega))
        have hz8 : w.heap.size + 1 + 1 ≤ w8.heap.size := by have := hg8.size; simp at this; omega
        clear hown8 hg8 hO hB hR
        go_wp2_with fail
        go_roundw
        case rel => exact ⟨k + 1, A8, c8, by omega, by go_num, rfl, Lib.hid (by rw [htk.out]; exact HO8.out), HR8, HB8, hz8⟩
        case measure => simp [intOf]; omega
      · have hO' := hO.out.sl
        rw [List.take_of_length_le (by omega)] at hO'
        have cA2 := cA.out _ wr hO'
        rw [HSU.out] at cA2
        have CA := Lib.hid cA2
        have HR := hR.out
        clear cA2 hO' hO cA hR
        go_wp2_with (go_at_call 93; refine CA.out.mono ?_; rintro e w' ⟨rfl, hb⟩; obtain ⟨c0, c1, c2, f0, f1, f2⟩ := (HR.ext hb (by omega)).three)
        refine bodyPost_ret (v := .agg #[.int .i64 m.b, .int .i64 m.r, .int .i64 m.n]) (by simp [results, Tryz.results75, go_sem, c0, c1, c2]) rfl ⟨rfl, ?_⟩
        refine bset (bset (bset (bcall hB.out hb) ?_) ?_) ?_ <;> simp

set_option maxHeartbeats 400000 in
set_option maxRecDepth 100000 in
theorem ncheck_any (G : Ar) (i : Nat) (x : Nd) (kv : Value) (w : World) (h : NodeIn G i x kv w) :
    Calls Tryz.prog 74 #[ndV x kv] w fun e w' => e = .returned (.int .i64 0) ∧ Below w.heap.size w w' := by
  have c1 := Lib.hid (fun W (hb : Below w.heap.size w W) => formed_any G i x kv W (h.ext hb))
  have c2 := fun W (hb : Below w.heap.size w W) => nsum_any G i x kv W (h.ext hb)
  have hb65 : ((meas x.T).b : Int) ≤ 65536 := by have := h.hT; rw [meas_b]; omega
  have hfd : ∀ w (a b c : Nat), (Instr.field 37 (.agg #[.int .i64 a, .int .i64 b, .int .i64 c]) 0).run Tryz.prog w = .ok (.int .i64 a) w := fun _ _ _ _ => by kernel_rfl
  unfold Ms.v at c2
  have C2 := Lib.hid c2
  clear c2 h
  unfold ndV at *
  generalize meas x.T = m at *
  go_enter Tryz.func74, Tryz.ntmps74
  go_wp2_with fail
  refine (c1.out _ (bal (Below.refl _ _))).mono ?_
  rintro e w1 ⟨rfl, hb1⟩
  have hB1 := bcall (bal (Below.refl _ _)) hb1
  obtain ⟨d0, d1, d2, -⟩ := ((Bk.new w #[.int .i64 x.ht, .string ⟨(ownT x).toArray⟩, kv] 84).ext hb1 (by simp)).three
  go_wp2_with fail
  refine (C2.out _ hB1).mono ?_
  rintro e w2 ⟨rfl, hb2⟩
  go_wp2_with fail
  go_ret
  exact ⟨rfl, bcall hB1 hb2⟩

set_option maxHeartbeats 400000 in
set_option maxRecDepth 100000 in
theorem nmeas_any (G : Ar) (i : Nat) (x : Nd) (kv : Value) (w : World) (h : NodeIn G i x kv w) :
    Calls Tryz.prog 53 #[ndV x kv] w fun e w' => e = .returned (.tuple #[(meas x.T).v, .int .i64 0]) ∧ Below w.heap.size w w' := by
  have c1 := Lib.hid (fun W (hb : Below w.heap.size w W) => ncheck_any G i x kv W (h.ext hb))
  have c2 := fun W (hb : Below w.heap.size w W) => nsum_any G i x kv W (h.ext hb)
  unfold Ms.v at *
  have C2 := Lib.hid c2
  clear c2 h
  unfold ndV at *
  generalize meas x.T = m at *
  go_enter Tryz.func53, Tryz.ntmps53
  go_wp2_with fail
  refine (c1.out _ (bal (bal (Below.refl _ _)))).mono ?_
  rintro e w1 ⟨rfl, hb1⟩
  have hB1 := bcall (bal (bal (Below.refl _ _))) hb1
  have hr1 := bal2 w hb1
  obtain ⟨d0, d1, d2, -⟩ := (((Bk.new w #[.int .i64 x.ht, .string ⟨(ownT x).toArray⟩, kv] 84).alloc).ext hb1 (by simp; omega)).three
  go_wp2_with fail
  refine (C2.out _ hB1).mono ?_
  rintro e w2 ⟨rfl, hb2⟩
  obtain ⟨c0, c1, c2, f0, f1, f2⟩ := (hr1.ext hb2 hr1.lt).three
  go_wp2_with fail
  refine bodyPost_ret (v := .tuple #[.agg #[.int .i64 m.b, .int .i64 m.r, .int .i64 m.n], .int .i64 0]) (by simp [results, Tryz.results53, go_sem, c0, c1, c2]) rfl ⟨rfl, ?_⟩
  refine bset (bset (bset (bcall hB1 hb2) ?_) ?_) ?_ <;> simp

end Go.Proofs.YtclmjnobacepjaaGreat

/- package freelist: the list in memory; Take. Condition: 1000 slots. -/
namespace Go.Proofs.YtclmjnobacepjaaGreat
open Go.RowKit

def iv (i : Nat) : Value := .int .i64 i
def sv8 (i : Nat) : Value := .int .u8 i
def gv64 (i : Nat) : Value := .int .u64 i

/-- the blocks of a list: itself, the stack, the states, the generations -/
structure FLb where
  lb : Nat
  sb : Nat
  tb : Nat
  gb : Nat
def FLb.nd (F : FLb) : Prop := F.lb ≠ F.sb ∧ F.lb ≠ F.tb ∧ F.lb ≠ F.gb ∧ F.sb ≠ F.tb ∧ F.sb ≠ F.gb ∧ F.tb ≠ F.gb
/-- the list in memory: stack, states, generations -/
structure FL (w : World) (F : FLb) (S X Y : List Nat) : Prop where
  list : Bk w F.lb #[.slice (some ⟨F.sb, 0, none⟩) S.length 1000, .slice (some ⟨F.tb, 0, none⟩) 1000 1000, .slice (some ⟨F.gb, 0, none⟩) 1000 1000, .int .u64 3] 100
  stack : ∃ cur, Bk w F.sb cur 3 ∧ cur.size = 1000 ∧ cur.toList.take S.length = S.map iv
  slen : S.length ≤ 1000
  states : Bk w F.tb (X.map sv8).toArray 117
  xlen : X.length = 1000
  gens : Bk w F.gb (Y.map gv64).toArray 28
  ylen : Y.length = 1000
  nd : F.nd
  swf : ∀ s ∈ S, s < 1000

/-- all blocks but those of T lie as they lay -/
structure FrT (T : Nat → Prop) (w w' : World) : Prop where
  os : w'.os = w.os
  tape : w'.tape = w.tape
  output : w'.output = w.output
  size : w.heap.size ≤ w'.heap.size
  block : ∀ k, k < w.heap.size → ¬ T k → w'.heap[k]? = w.heap[k]?
theorem FrT.refl (T : Nat → Prop) (w : World) : FrT T w w := ⟨rfl, rfl, rfl, Nat.le_refl _, fun _ _ _ => rfl⟩
theorem FrT.trans {T : Nat → Prop} {a b c : World} (h : FrT T a b) (h' : FrT T b c) : FrT T a c :=
  ⟨h'.os.trans h.os, h'.tape.trans h.tape, h'.output.trans h.output, Nat.le_trans h.size h'.size, fun k hk hT => (h'.block k (Nat.lt_of_lt_of_le hk h.size) hT).trans (h.block k hk hT)⟩
theorem FrT.mono {T T' : Nat → Prop} {a b : World} (h : FrT T a b) (ht : ∀ k, T k → T' k) : FrT T' a b := ⟨h.os, h.tape, h.output, h.size, fun k hk hT => h.block k hk (fun q => hT (ht k q))⟩
theorem FrT.of_below {T : Nat → Prop} {a b : World} (h : Below a.heap.size a b) : FrT T a b := ⟨h.os, h.tape, h.output, h.size, fun k hk _ => h.block k hk⟩
theorem FrT.below {T : Nat → Prop} {a b c : World} (h : FrT T a b) (h' : Below b.heap.size b c) : FrT T a c := h.trans (FrT.of_below h')
theorem FrT.set {T : Nat → Prop} {a b : World} (h : FrT T a b) {p : Addr} (hp : T p.block ∨ a.heap.size ≤ p.block) (u : Value) : FrT T a (b.setCell p u) :=
  ⟨h.os, h.tape, h.output, by have := h.size; simpa [World.setCell] using this, fun k hk hT => (Below.heap_setCell b p u k (fun e => by
    rcases hp with hp | hp
    · exact hT (e ▸ hp)
    · omega)).trans (h.block k hk hT)⟩
theorem FrT.alloc {T : Nat → Prop} {a b : World} (h : FrT T a b) {o : Obj} : FrT T a (b.alloc o) := h.below (bal (Below.refl _ _))
theorem FrT.drew {T : Nat → Prop} {a b : World} (h : FrT T a b) : FrT T a b.drew := ⟨h.os, h.tape, h.output, h.size, h.block⟩
theorem FrT.drewN {T : Nat → Prop} {a b : World} (h : FrT T a b) (n : Nat) : FrT T a (b.drewN n) := ⟨h.os, h.tape, h.output, h.size, h.block⟩
theorem FrT.grown {T : Nat → Prop} {a b c : World} (h : FrT T a b) {row : Option Nat} (hg : b.grownBy c row) (hr : ∀ k, row = some k → T k ∨ a.heap.size ≤ k) : FrT T a c :=
  ⟨hg.os.trans h.os, hg.tape.trans h.tape, hg.output.trans h.output, Nat.le_trans h.size hg.size, fun k hk hT => (hg.block k (Nat.lt_of_lt_of_le hk h.size) (fun e => by
    rcases hr k e.symm with q | q
    · exact hT q
    · omega)).trans (h.block k hk hT)⟩

theorem take_snoc' {α : Type} {a b : List α} {x : α} {n : Nat} (h : a.take (n + 1) = b ++ [x]) (hn : b.length = n) : a.take n = b ∧ a[n]? = some x := by
  have h1 : (a.take (n + 1)).take n = a.take n := by rw [List.take_take]; congr 1; omega
  refine ⟨by rw [← h1, h, ← hn]; simp, ?_⟩
  have h2 : (a.take (n + 1))[n]? = a[n]? := by rw [List.getElem?_take]; simp
  rw [← h2, h, ← hn]; simp

def flT (F : FLb) (k : Nat) : Prop := k = F.lb ∨ k = F.sb ∨ k = F.tb ∨ k = F.gb

theorem FL.drewN {w : World} {F : FLb} {S X Y : List Nat} (h : FL w F S X Y) (n : Nat) : FL (w.drewN n) F S X Y := ⟨h.list, h.stack, h.slen, h.states, h.xlen, h.gens, h.ylen, h.nd, h.swf⟩

/-- what the walk of Take reads -/
structure TkF (w : World) (F : FLb) (n : Nat) (s x : Nat) : Prop where
  c0 : w.cell? ⟨F.lb, 0, none⟩ = some (.slice (some ⟨F.sb, 0, none⟩) (n + 1) 1000)
  c1 : w.cell? ⟨F.lb, 1, none⟩ = some (.slice (some ⟨F.tb, 0, none⟩) 1000 1000)
  c2 : w.cell? ⟨F.lb, 2, none⟩ = some (.slice (some ⟨F.gb, 0, none⟩) 1000 1000)
  f0 : w.frozen? ⟨F.lb, 0, none⟩ = false
  cs : w.cell? ⟨F.sb, n, none⟩ = some (.int .i64 s)
  ct : w.cell? ⟨F.tb, s, none⟩ = some (.int .u8 x)
  ft : w.frozen? ⟨F.tb, s, none⟩ = false
  cg : w.cell? ⟨F.gb, s, none⟩ = some (.int .u64 1)

theorem FL.tk {w : World} {F : FLb} {S X Y : List Nat} {s x : Nat} (h : FL w F (S ++ [s]) X Y) (hy : Y[s]? = some 1) (hxs : X[s]? = some x) : TkF w F S.length s x := by
  obtain ⟨cur, hcur, hcz, hct⟩ := h.stack
  rw [List.length_append, List.length_singleton, List.map_append, List.map_singleton] at hct
  obtain ⟨ht1, ht2⟩ := take_snoc' hct (by simp)
  obtain ⟨c0, c1, c2, c3, f0, f1, f2, f3⟩ := h.list.four
  rw [List.length_append, List.length_singleton] at c0
  refine ⟨c0, c1, c2, f0, ?_, ?_, h.states.free s, ?_⟩
  · rw [hcur.cell, ← Array.getElem?_toList, ht2]; rfl
  · rw [h.states.cell]; simp [hxs, sv8]
  · rw [h.gens.cell]; simp [hy, gv64]

theorem FL.pop {w : World} {F : FLb} {S X Y : List Nat} {s : Nat} (h : FL w F (S ++ [s]) X Y) : FL ((w.setCell ⟨F.lb, 0, none⟩ (.slice (some ⟨F.sb, 0, none⟩) S.length 1000)).setCell ⟨F.tb, s, none⟩ (.int .u8 1)) F S (X.set s 1) Y := by
  obtain ⟨n1, n2, n3, n4, n5, n6⟩ := h.nd
  obtain ⟨cur, hcur, hcz, hct⟩ := h.stack
  rw [List.length_append, List.length_singleton, List.map_append, List.map_singleton] at hct
  obtain ⟨ht1, ht2⟩ := take_snoc' hct (by simp)
  have hsl := h.slen
  rw [List.length_append, List.length_singleton] at hsl
  refine ⟨?_, ⟨cur, ?_, hcz, ht1⟩, by omega, ?_, by simp [h.xlen], ?_, h.ylen, h.nd, fun x hx => h.swf x (by simp [hx])⟩
  · exact (h.list.set 0 _).other n2
  · exact (hcur.other (Ne.symm n1)).other n4
  · have := (h.states.other (p := ⟨F.lb, 0, none⟩) (u := .slice (some ⟨F.sb, 0, none⟩) S.length 1000) (Ne.symm n2)).set s (.int .u8 1)
    rwa [show (X.map sv8).toArray.setIfInBounds s (.int .u8 1) = ((X.set s 1).map sv8).toArray by simp [sv8]] at this
  · exact (h.gens.other (Ne.symm n3)).other (Ne.symm n6)

set_option maxHeartbeats 1600000 in
set_option maxRecDepth 100000 in
theorem take_any (F : FLb) (S X Y : List Nat) (s : Nat) (w : World) (h : FL w F (S ++ [s]) X Y) (hy : Y[s]? = some 1) :
    Calls Tryz.prog 120 #[.pointer (some ⟨F.lb, 0, none⟩)] w fun e w' => e = .returned (.tuple #[.int .u64 (hd s : Nat), .int .i64 0]) ∧ FL w' F S (X.set s 1) Y ∧ FrT (flT F) w w' := by
  have hs : s < 1000 := h.swf s (by simp)
  obtain ⟨x, hxs⟩ : ∃ x, X[s]? = some x := ⟨X[s]'(by have := h.xlen; omega), List.getElem?_eq_getElem _⟩
  have hsl := h.slen
  rw [List.length_append, List.length_singleton] at hsl
  have cM := Lib.hid (make_any s (by omega))
  have HN := Lib.hid h.nd
  have e1 : (S.length : Int) + 1 - 1 = S.length := by omega
  have e0 : ((S.length : Int) + 1 == 0) = false := by rw [beq_eq_false_iff_ne]; omega
  have hsi : (s : Int) < 1000 := by omega
  have hF := Lib.hid (fun (W : World) (H : FL W F (S ++ [s]) X Y) => H.tk hy hxs)
  obtain ⟨c0, c1, c2, f0, cs, ct, ft, cg⟩ := hF.out w h
  have HF := Lib.hid h
  clear h hy hxs
  go_enter Tryz.func120, Tryz.ntmps120
  go_wp2_with fail
  go_quiet (fail)
  have h2 := HF.out.drewN nq
  have g2 := Lib.hid ((FrT.refl (flT F) w).drewN nq)
  generalize w.drewN nq = w1 at h2 g2 ⊢
  clear c0 c1 c2 f0 cs ct ft cg
  obtain ⟨c0, c1, c2, f0, cs, ct, ft, cg⟩ := hF.out w1 h2
  go_wp2_with fail
  go_region
  obtain ⟨n1, n2, n3, n4, n5, n6⟩ := HN.out
  clear HN
  go_wp2_with (go_at_call 43; refine (cM.out _).mono ?_; rintro e w' ⟨rfl, rfl⟩)
  go_ret2
  exact ⟨rfl, FL.pop (h2.drewN 1), (g2.out.drew.set (.inl (.inl rfl)) _).set (.inl (.inr (.inr (.inl rfl)))) _⟩

end Go.Proofs.YtclmjnobacepjaaGreat

/- package arena: the arena in memory; slices.Clone at kids; Get. -/
namespace Go.Proofs.YtclmjnobacepjaaGreat
open Go.RowKit

set_option maxHeartbeats 1000000 in
set_option maxRecDepth 100000 in
theorem cloneK_any (v : Value) (l : List Kd) (w : World) (h : Sl kdE w v l) (hl : l.length ≤ 1000) (hv : l = [] → v = .slice none 0 0) :
    Calls Tryz.prog 54 #[v] w fun e w' => ∃ v', e = .returned v' ∧ Ow kdE w' w.heap.size 114 v' l ∧ (l = [] → v' = .slice none 0 0) ∧ Below w.heap.size w w' := by
  have he : ∀ (w : World) (a : Option Addr) (n c : Nat), (binOp .eql 82 (.slice a n c) (.slice none 0 0)).run Tryz.prog w = .ok (.bool a.isNone) w := fun w a n c => by cases a <;> rfl
  by_cases hn : l = []
  · subst hn
    rw [hv rfl]
    clear h hv
    go_enter Tryz.func54, Tryz.ntmps54
    go_wp2
    go_ret
    exact ⟨_, rfl, Ow.nil _ _ _ _, fun _ => rfl, Below.refl _ _⟩
  · obtain ⟨A, cap, rfl, h2, h3, h4⟩ := id h
    obtain ⟨b, off, rfl, -⟩ := h4 (List.length_pos_iff.2 hn)
    have H := Lib.hid h; have HN := Lib.hid hn
    clear h4 h hn hv
    go_enter Tryz.func54, Tryz.ntmps54
    go_wp2_with (at_builtin; refine Hid.out ?_)
    refine Lib.hid ?_
    have hm : Ow kdE (w.alloc (.cells #[] 114)) w.heap.size 114 (.slice (some ⟨w.heap.size, 0, none⟩) 0 0) [] := World.ownsRow_made w #[] 0 (Nat.le_refl _) (by simp [maxLen]) (by simp)
    refine wpOwS _ kdOK rfl (.tmp 5) (.tmp 6) rfl w.heap.size (by simp) _ [] rfl hm _ l rfl (H.out.alloc _) (by simp; omega) ?_
    intro A5 c5 w5 hown5 hg5 _
    rw [List.nil_append] at hown5
    have HO := Lib.hid hown5
    have HB := Lib.hid ((bal (Below.refl w.heap.size w)).grown hg5 (by simp) (fun k hk => by have := (hm.lt k hk).1; omega))
    have hnl : ([] : List Kd).length + l.length = l.length := by simp
    rw [hnl] at HO ⊢
    clear hown5 hg5 hm
    go_wp2_with fail
    go_ret
    exact ⟨_, rfl, HO.out, fun q => absurd q HN.out, HB.out⟩

/-- an own row lies in a block of its type -/
theorem Ow.blk {α : Type} {E : Enc α} {w : World} {B : Nat} {e : TypeId} {v : Value} {l : List α} (h : Ow E w B e v l) : ∀ g, v.ownBlock = some g → ∃ cur, Bk w g cur e := by
  intro g hg
  rcases h.2 with ⟨rfl, _⟩ | ⟨g', cap, cur, rfl, _, hg', _⟩
  · cases hg
  · have e2 : g' = g := Option.some.inj hg
    subst e2
    exact ⟨cur, hg'⟩

/-- the blocks of an arena -/
structure AF where
  ba : Nat
  mb : Nat
  F : FLb
def AF.nd (A : AF) : Prop := A.ba ≠ A.mb ∧ A.ba ≠ A.F.lb ∧ A.ba ≠ A.F.sb ∧ A.ba ≠ A.F.tb ∧ A.ba ≠ A.F.gb ∧ A.mb ≠ A.F.lb ∧ A.mb ≠ A.F.sb ∧ A.mb ≠ A.F.tb ∧ A.mb ≠ A.F.gb
def arT (A : AF) (k : Nat) : Prop := k = A.ba ∨ k = A.mb ∨ flT A.F k
/-- the slots that are free, those taken, when n are taken -/
def stk (n : Nat) : List Nat := (List.range (1000 - n)).map fun i => 999 - i
def stt (n : Nat) : List Nat := List.replicate n 1 ++ List.replicate (1000 - n) 0

/-- the value v is node x, whose children lie in w, in no block of the arena's own -/
def NdV (A : AF) (G : Ar) (w : World) (x : Nd) (v : Value) : Prop := ∃ kv, v = ndV x kv ∧ Sl kdE w kv (x.ks.map (kdOf G)) ∧ (x.ks = [] → kv = .slice none 0 0) ∧ ∀ g, kv.ownBlock = some g → ¬ arT A g ∧ ∃ cur, Bk w g cur 114
/-- the map of the nodes -/
def NdMap (A : AF) (G : Ar) (w : World) (f : Int → Option Value) : Prop :=
  (∀ i x, G[i]? = some x → ∃ v, f (hd i : Nat) = some v ∧ NdV A G w x v) ∧ (∀ k, (f k).isSome = true → ∃ i, i < G.length ∧ k = (hd i : Nat))

/-- the arena in memory, nothing having been freed -/
structure ArM (w : World) (A : AF) (G : Ar) : Prop where
  ar : Bk w A.ba #[.int .i64 1000, .pointer (some ⟨A.F.lb, 0, none⟩), .map (some A.mb), .int .i64 G.length, .int .i64 0, .int .i64 0] 60
  fl : FL w A.F (stk G.length) (stt G.length) (List.replicate 1000 1)
  map : ∃ f, MapIs w A.mb f G.length ∧ NdMap A G w f
  ok : ArOK G
  le : G.length ≤ 1000
  sz : ∀ (i : Nat) (x : Nd), G[i]? = some x → x.T.length ≤ 65536
  nd : A.nd

theorem FL.keep {w w' : World} {F : FLb} {S X Y : List Nat} (h : FL w F S X Y) (hk : ∀ k, flT F k → w'.heap[k]? = w.heap[k]?) : FL w' F S X Y := by
  obtain ⟨cur, h1, h2⟩ := h.stack
  exact ⟨(hk _ (.inl rfl)).trans h.list, ⟨cur, (hk _ (.inr (.inl rfl))).trans h1, h2⟩, h.slen, (hk _ (.inr (.inr (.inl rfl)))).trans h.states, h.xlen, (hk _ (.inr (.inr (.inr rfl)))).trans h.gens, h.ylen, h.nd, h.swf⟩
theorem FL.lt {w : World} {F : FLb} {S X Y : List Nat} (h : FL w F S X Y) {k : Nat} (hk : flT F k) : k < w.heap.size := by
  obtain ⟨cur, h1, h2⟩ := h.stack
  rcases hk with rfl | rfl | rfl | rfl
  · exact h.list.lt
  · exact h1.lt
  · exact h.states.lt
  · exact h.gens.lt
theorem FL.ext {w w' : World} {F : FLb} {S X Y : List Nat} (h : FL w F S X Y) (hb : Below w.heap.size w w') : FL w' F S X Y := by
  obtain ⟨cur, h1, h2⟩ := h.stack
  exact ⟨h.list.ext hb h.list.lt, ⟨cur, h1.ext hb h1.lt, h2⟩, h.slen, h.states.ext hb h.states.lt, h.xlen, h.gens.ext hb h.gens.lt, h.ylen, h.nd, h.swf⟩
theorem NdV.ext {A : AF} {G : Ar} {w w' : World} {x : Nd} {v : Value} (h : NdV A G w x v) (hb : Below w.heap.size w w') : NdV A G w' x v := by
  obtain ⟨kv, h1, h2, h3, h4⟩ := h
  exact ⟨kv, h1, h2.ext hb, h3, fun g hg => ⟨(h4 g hg).1, by obtain ⟨cur, q⟩ := (h4 g hg).2; exact ⟨cur, q.ext hb q.lt⟩⟩⟩
theorem NdMap.ext {A : AF} {G : Ar} {w w' : World} {f : Int → Option Value} (h : NdMap A G w f) (hb : Below w.heap.size w w') : NdMap A G w' f :=
  ⟨fun i x hx => by obtain ⟨v, a, b⟩ := h.1 i x hx; exact ⟨v, a, b.ext hb⟩, h.2⟩
theorem ArM.ext {w w' : World} {A : AF} {G : Ar} (h : ArM w A G) (hb : Below w.heap.size w w') : ArM w' A G := by
  obtain ⟨f, h1, h2⟩ := h.map
  exact ⟨h.ar.ext hb h.ar.lt, h.fl.ext hb, ⟨f, h1.ext hb h1.lt, h2.ext hb⟩, h.ok, h.le, h.sz, h.nd⟩
theorem ArM.drewN {w : World} {A : AF} {G : Ar} (h : ArM w A G) (n : Nat) : ArM (w.drewN n) A G := h.ext (bdrN (Below.refl _ _))

theorem inH_hd {i : Nat} (h : i ≤ 16384) : inH (hd i : Nat) := by unfold inH hd; omega

theorem zeroNd (w : World) : (zeroValue 84).run Tryz.prog w = .ok (.agg #[.int .i64 0, .string ⟨#[]⟩, .slice none 0 0]) w := by kernel_rfl

/-- what a look-up in the map of the nodes finds -/
theorem ArM.look {w : World} {A : AF} {G : Ar} (h : ArM w A G) {i : Nat} {x : Nd} (hx : G[i]? = some x) :
    ∃ kv, (Instr.lookup 58 (.map (some A.mb)) (.int .u64 (hd i : Nat)) true).run Tryz.prog w = .ok (.tuple #[ndV x kv, .bool true]) w ∧ NodeIn G i x kv w := by
  obtain ⟨f, h1, h2, h3⟩ := h.map
  obtain ⟨v, hf, kv, rfl, hs, hn, -⟩ := h2 i x hx
  have hi : i < G.length := (List.getElem?_eq_some_iff.1 hx).1
  have hle := h.le
  have := h1.look2 Tryz.underlying58 (zeroNd w) (inH_hd (i := i) (by omega))
  rw [hf] at this
  exact ⟨kv, this, ⟨h.ok, h.ok i x hx, by omega, hs, hn, h.sz i x hx⟩⟩

/-- the same in each world that has the same map -/
theorem ArM.lookAll {w : World} {A : AF} {G : Ar} (h : ArM w A G) {i : Nat} {x : Nd} (hx : G[i]? = some x) :
    ∃ kv, NodeIn G i x kv w ∧ ∀ W : World, W.heap[A.mb]? = w.heap[A.mb]? → (Instr.lookup 58 (.map (some A.mb)) (.int .u64 (hd i : Nat)) true).run Tryz.prog W = .ok (.tuple #[ndV x kv, .bool true]) W := by
  obtain ⟨f, h1, h2, h3⟩ := h.map
  obtain ⟨v, hf, kv, rfl, hs, hn, -⟩ := h2 i x hx
  have hi : i < G.length := (List.getElem?_eq_some_iff.1 hx).1
  have hle := h.le
  refine ⟨kv, ⟨h.ok, h.ok i x hx, by omega, hs, hn, h.sz i x hx⟩, fun W hW => ?_⟩
  have := (h1.keep hW).look2 Tryz.underlying58 (zeroNd W) (inH_hd (i := i) (by omega))
  rw [hf] at this
  exact this
theorem ArM.mlt {w : World} {A : AF} {G : Ar} (h : ArM w A G) : A.mb < w.heap.size := by
  obtain ⟨f, h1, _⟩ := h.map
  exact h1.lt

theorem ArM.lt {w : World} {A : AF} {G : Ar} (h : ArM w A G) {k : Nat} (hk : arT A k) : k < w.heap.size := by
  rcases hk with rfl | rfl | hk
  · exact h.ar.lt
  · exact h.mlt
  · exact h.fl.lt hk
theorem stk_snoc {n : Nat} (h : n < 1000) : stk n = stk (n + 1) ++ [n] := by
  unfold stk
  rw [show 1000 - n = (1000 - (n + 1)) + 1 by omega, List.range_succ, List.map_append]
  simp
  omega
theorem stt_set {n : Nat} (h : n < 1000) : (stt n).set n 1 = stt (n + 1) := by
  unfold stt
  rw [show 1000 - n = (1000 - (n + 1)) + 1 by omega, List.replicate_succ, List.set_append, if_neg (by simp)]
  simp [List.replicate_succ']
theorem kd_app {G H : Ar} {k : Nat} (h : k < G.length) : kdOf (G ++ H) k = kdOf G k := by unfold kdOf; rw [txt_app h]
theorem kds_app {G H : Ar} {i : Nat} {x : Nd} (hi : i ≤ G.length) (h : NdOK G i x) : x.ks.map (kdOf (G ++ H)) = x.ks.map (kdOf G) := by
  apply List.map_congr_left
  intro k hk
  rcases h with ⟨_, q, _⟩ | ⟨_, _, _, _, q, _⟩
  · rw [q] at hk; cases hk
  · exact kd_app (by have := (q k hk).1; omega)

/-- what keeps the arena: its own blocks, and the rows of kids -/
theorem ArM.setRt {w w' : World} {A : AF} {G : Ar} (h : ArM w A G) (hk : ∀ k, arT A k → w'.heap[k]? = w.heap[k]?) (hs : w.heap.size ≤ w'.heap.size) (ht : ∀ b cs, Bk w b cs 114 → Bk w' b cs 114) : ArM w' A G := by
  obtain ⟨f, h1, h2, h3⟩ := h.map
  refine ⟨(hk _ (.inl rfl)).trans h.ar, h.fl.keep (fun k q => hk k (.inr (.inr q))), ⟨f, h1.keep (hk _ (.inr (.inl rfl))), fun i x hx => ?_, h3⟩, h.ok, h.le, h.sz, h.nd⟩
  obtain ⟨v, hv, kv, rfl, a, b, c⟩ := h2 i x hx
  refine ⟨_, hv, kv, rfl, a.keepB hs (fun g hg => ?_), b, fun g hg => ⟨(c g hg).1, ?_⟩⟩
  · obtain ⟨cur, q⟩ := (c g hg).2
    exact (ht g cur q).trans q.symm
  · obtain ⟨cur, q⟩ := (c g hg).2
    exact ⟨cur, ht g cur q⟩

/-- the arena with one more node -/
theorem ArM.grow {w W : World} {A : AF} {G : Ar} {x : Nd} {kv : Value} {f : Int → Option Value} (h : ArM w A G) (hlt : G.length < 1000) (hx : NdOK G G.length x) (hT : x.T.length ≤ 65536) (hs : w.heap.size ≤ W.heap.size)
    (h1 : Bk W A.ba #[.int .i64 1000, .pointer (some ⟨A.F.lb, 0, none⟩), .map (some A.mb), .int .i64 (G.length + 1 : Nat), .int .i64 0, .int .i64 0] 60)
    (h2 : FL W A.F (stk (G.length + 1)) (stt (G.length + 1)) (List.replicate 1000 1)) (hf : NdMap A G w f)
    (h3 : MapIs W A.mb (upd f (hd G.length : Nat) (ndV x kv)) (G.length + 1)) (hkv : Sl kdE W kv (x.ks.map (kdOf G))) (hnil : x.ks = [] → kv = .slice none 0 0) (hfr : ∀ g, kv.ownBlock = some g → ¬ arT A g ∧ ∃ cur, Bk W g cur 114)
    (ho : ∀ k, k < w.heap.size → ¬ arT A k → W.heap[k]? = w.heap[k]?) : ArM W A (G ++ [x]) := by
  have hl : (G ++ [x]).length = G.length + 1 := by simp
  refine ⟨by rw [hl]; exact h1, by rw [hl]; exact h2, ⟨_, by rw [hl]; exact h3, fun i y hy => ?_, fun k hk => ?_⟩, h.ok.snoc hx, by omega, fun i y hy => ?_, h.nd⟩
  · by_cases hi : i < G.length
    · rw [List.getElem?_append_left hi] at hy
      obtain ⟨v, hv, kv', rfl, a, b, c⟩ := hf.1 i y hy
      refine ⟨ndV y kv', ?_, kv', rfl, ?_, b, fun g hg => ⟨(c g hg).1, by obtain ⟨cur, q⟩ := (c g hg).2; exact ⟨cur, (ho g q.lt (c g hg).1).trans q⟩⟩⟩
      · rw [upd, if_neg (by unfold hd; omega)]; exact hv
      · rw [kds_app (by omega) (h.ok i y hy)]
        exact a.keepB hs (fun g hg => ho g (by
          obtain ⟨A', cap', e, -, -, e4⟩ := a
          subst e
          rcases Nat.eq_zero_or_pos (y.ks.map (kdOf G)).length with e0 | e0
          · have := b (by simpa using e0)
            rw [this] at hg; cases hg
          · obtain ⟨b', off, rfl, hb', -⟩ := e4 e0
            cases hg; exact hb') (c g hg).1)
    · have : i = G.length := by have := (List.getElem?_eq_some_iff.1 hy).1; omega
      subst this
      simp at hy
      subst hy
      refine ⟨ndV x kv, by rw [upd, if_pos rfl], kv, rfl, ?_, hnil, hfr⟩
      rw [kds_app (Nat.le_refl _) hx]
      exact hkv
  · unfold upd at hk
    by_cases e : k = (hd G.length : Nat)
    · exact ⟨G.length, by omega, e⟩
    · rw [if_neg e] at hk
      obtain ⟨i, hi, e⟩ := hf.2 k hk
      exact ⟨i, by omega, e⟩
  · by_cases hi : i < G.length
    · rw [List.getElem?_append_left hi] at hy
      exact h.sz i y hy
    · have : i = G.length := by have := (List.getElem?_eq_some_iff.1 hy).1; omega
      subst this
      simp at hy
      subst hy
      exact hT

set_option maxHeartbeats 1000000 in
set_option maxRecDepth 100000 in
theorem get_any (A : AF) (G : Ar) (i : Nat) (x : Nd) (w : World) (h : ArM w A G) (hx : G[i]? = some x) :
    Calls Tryz.prog 39 #[.pointer (some ⟨A.ba, 0, none⟩), .int .u64 (hd i : Nat)] w fun e w' => ∃ kv, e = .returned (.tuple #[ndV x kv, .int .i64 0]) ∧ NodeIn G i x kv w' ∧ Below w.heap.size w w' := by
  obtain ⟨kv, hl, hN⟩ := (h.ext (bal (o := .cells #[.int .i64 0, .string ⟨#[]⟩, .slice none 0 0] 84) (Below.refl w.heap.size w))).look hx
  obtain ⟨Ak, capk, hkv, -⟩ := id hN.sl
  rw [List.length_map] at hkv
  subst hkv
  have hlen : (x.ks.map (kdOf G)).length ≤ 1000 := by
    rw [List.length_map]
    rcases hN.nd with ⟨_, q, _⟩ | ⟨_, _, _, q, _⟩
    · rw [q]; simp
    · omega
  have cC := Lib.hid (fun W (_ : Below w.heap.size w W) (q2 : NodeIn G i x (.slice Ak x.ks.length capk) W) => cloneK_any (.slice Ak x.ks.length capk) (x.ks.map (kdOf G)) W q2.sl hlen (fun e => q2.nil (List.map_eq_nil_iff.1 e)))
  obtain ⟨c0, c1, c2, c3, c4, c5, -⟩ := h.ar.six
  have hba := h.ar.lt
  have HN := Lib.hid hN; have HX := Lib.hid hx
  clear hN hx hlen h
  unfold ndV at *
  go_enter Tryz.func39, Tryz.ntmps39
  go_wp2_with fail
  refine (cC.out _ (bal (bal (Below.refl _ _))) (HN.out.ext (bal (Below.refl _ _)))).mono ?_
  rintro e w2 ⟨kv', rfl, hs, hn, hb⟩
  obtain ⟨Ak', capk', hkv', -⟩ := id hs.sl
  rw [List.length_map] at hkv'
  subst hkv'
  have hB := bcall (bal (bal (Below.refl _ _))) hb
  have hk := bal2 w hb
  obtain ⟨d0, d1, d2, g0, g1, g2⟩ := hk.three
  obtain ⟨e0, e1, e2, g3, g4, g5⟩ := (((Bk.new w #[.int .i64 0, .string ⟨#[]⟩, .slice none 0 0] 84).alloc).ext hb (by simp; omega)).three
  have hlt := hk.lt
  have HNN := Lib.hid ((HN.out.ext (bal (o := .cells #[.int .i64 x.ht, .string ⟨(ownT x).toArray⟩, .slice Ak x.ks.length capk] 84) (Below.refl _ _))).ext hb)
  have HS := Lib.hid hs; have HNL := Lib.hid hn; have HB := Lib.hid hB
  clear hs hn hB hb hk cC
  go_wp2_with fail
  refine bodyPost_ret (v := .tuple #[.agg #[.int .i64 x.ht, .string ⟨(ownT x).toArray⟩, .slice Ak' x.ks.length capk'], .int .i64 0]) (by simp [results, Tryz.results39, go_sem, d0, d1, d2, e0, e1, e2]) rfl ⟨_, rfl, ?_, ?_⟩
  · have hq1 : w.heap.size + 1 < ((w.alloc (.cells #[.int .i64 0, .string ⟨#[]⟩, .slice none 0 0] 84)).alloc (.cells #[.int .i64 x.ht, .string ⟨(ownT x).toArray⟩, .slice Ak x.ks.length capk] 84)).heap.size := by simp
    have hq2 : w.heap.size < ((w.alloc (.cells #[.int .i64 0, .string ⟨#[]⟩, .slice none 0 0] 84)).alloc (.cells #[.int .i64 x.ht, .string ⟨(ownT x).toArray⟩, .slice Ak x.ks.length capk] 84)).heap.size := by simp; omega
    exact ⟨HNN.out.ar, HNN.out.nd, HNN.out.hi, ((((HS.out.set hq1 _).set hq2 _).set hq2 _).set hq2 _).sl, fun q => HNL.out (by rw [q]; rfl), HNN.out.hT⟩
  · refine bset (bset (bset (bset HB.out ?_) ?_) ?_) ?_ <;> simp

end Go.Proofs.YtclmjnobacepjaaGreat
