/- compose.joined: the normal form of pieces, of which there may be too many. Condition: valid pieces of moderate size, at most 8192. -/
import Derived.Test.YtibmnkdeepmabaaComposed
import Derived.Test.YtibmnkdeepmabaaJoin
import Derived.Laws.MakeOwn
namespace Go.Proofs.Ytibmnkdeepmabaa
open Go.RowKit

theorem one_err {p : Pc} (h : p.valid = true ∧ p.n ≤ 1048576 ∧ p.t.length ≤ 1048576) : errL [p] = 0 := by
  obtain ⟨h1, h2, h3⟩ := h
  refine (errL_iff _).2 ⟨by simp, Val.one.2 h1, by simp only [inL]; omega, ?_⟩
  simp only [outL]
  rcases Pc.valid_cases h1 with ⟨x, y, z⟩ | ⟨x, y, z⟩ | ⟨x, y, z⟩
  · simp [Pc.out, x]; omega
  · simp [Pc.out, x]
  · simp [Pc.out, x]; omega
theorem infoSlice : (Try.prog.info? 39).map (fun i => (i.zero, i.size, i.bytes)) = some (some (.slice none 0 0), 1, 24) := by kernel_rfl

/-- rows of one piece each -/
def Ones (w : World) (B : Nat) (l : List Pc) (vs : List SV) : Prop :=
  ∀ (i : Nat) (x : SV) (p : Pc), vs[i]? = some x → l[i]? = some p → ∃ g, x = ⟨some ⟨g, 0, none⟩, 1, 1⟩ ∧ B ≤ g ∧ w.heap[g]? = some (.cells p.cells.toArray 53 (0, 0))
theorem Ones.snoc {w w' : World} {B : Nat} {l : List Pc} {vs : List SV} {k : Nat} (h : Ones w B l vs) (hk : vs.length = k) (hlt : k < l.length)
    (hf : ∀ (g : Nat) (p : Pc), w.heap[g]? = some (.cells (Pc.cells p).toArray 53 (0, 0)) → w'.heap[g]? = w.heap[g]?) {g : Nat} (hg : w'.heap[g]? = some (.cells l[k].cells.toArray 53 (0, 0))) (hgb : B ≤ g) :
    Ones w' B l (vs ++ [⟨some ⟨g, 0, none⟩, 1, 1⟩]) := by
  intro i x p hx hp
  by_cases hi : i < k
  · rw [List.getElem?_append_left (by omega)] at hx
    obtain ⟨g', e, h1, h2⟩ := h i x p hx hp
    exact ⟨g', e, h1, (hf g' p h2).trans h2⟩
  · have hi' : i = k := by
      have := (List.getElem?_eq_some_iff.1 hx).1
      rw [List.length_append, List.length_singleton] at this
      omega
    subst hi'
    rw [List.getElem?_append_right (by omega), hk, Nat.sub_self] at hx
    obtain rfl : _ = x := by simpa using hx
    rw [List.getElem?_eq_getElem hlt] at hp
    injection hp with hp
    subst hp
    exact ⟨g, rfl, hgb, hg⟩
theorem Ones.step {wr w8 : World} {B : Nat} {l : List Pc} {vs : List SV} {k : Nat} (h : Ones wr B l vs) (hk : vs.length = k) (hlt : k < l.length) {A4 : Option Addr} {c4 : Nat}
    (hO : wr.ownsRow B 39 1 (.slice A4 vs.length c4) vs.length (svE.flat vs)) (hB : B ≤ wr.heap.size) {o1 o3 : Obj}
    (hg : (((wr.alloc o1).alloc (.cells l[k].cells.toArray 53)).alloc o3).grownBy w8 (Value.slice A4 vs.length c4).ownBlock) :
    Ones w8 B l (vs ++ [⟨some ⟨wr.heap.size + 1, 0, none⟩, 1, 1⟩]) := by
  have e1 : (wr.alloc o1).heap.size = wr.heap.size + 1 := by simp
  refine h.snoc hk hlt (fun g p hp => ?_) ?_ (by omega)
  · have h1 := heap_lt hp
    have h2 : (((wr.alloc o1).alloc (.cells l[k].cells.toArray 53)).alloc o3).heap[g]? = wr.heap[g]? :=
      (Below.heap_alloc _ _ _ (by simp; omega)).trans ((Below.heap_alloc _ _ _ (by simp; omega)).trans (Below.heap_alloc _ _ _ h1))
    refine (hg.block g (by simp; omega) (fun e => ?_)).trans h2
    rcases hO.2 with ⟨e', _⟩ | ⟨g', cap, cur, e', _, hg', _⟩
    · rw [e'] at e; cases e
    · rw [e'] at e
      have h9 : some g = some g' := e
      injection h9 with h9
      subst h9
      rw [hp] at hg'
      injection hg' with hg'
      injection hg' with _ hg'
      exact absurd hg' (by decide)
  · have h2 : (((wr.alloc o1).alloc (.cells l[k].cells.toArray 53)).alloc o3).heap[wr.heap.size + 1]? = some (.cells l[k].cells.toArray 53 (0, 0)) := by
      refine (Below.heap_alloc _ _ _ (by simp)).trans ?_
      rw [← e1]
      exact heap_alloc_new _ _
    refine (hg.block _ (by simp) (fun e => ?_)).trans h2
    have := (hO.lt _ e.symm).2
    omega
theorem Ones.sll {w : World} {B C : Nat} {l : List Pc} {vs : List SV} {A : Option Addr} {c : Nat} (h : Ones w C l vs) (hk : vs.length = l.length) (ho : w.ownsRow B 39 1 (.slice A vs.length c) vs.length (svE.flat vs)) : Sll w (.slice A vs.length c) (l.map fun p => [p]) := by
  refine ⟨vs, Sl.of_own ho, by rw [List.length_map]; exact hk, fun i x L hx hL => ?_⟩
  rw [List.getElem?_map] at hL
  obtain ⟨p, hp, rfl⟩ := Option.map_eq_some_iff.1 hL
  obtain ⟨g, rfl, hg0, hg⟩ := h i x p hx hp
  refine ⟨_, 1, rfl, by simp, by simp [maxLen], fun _ => ⟨g, 0, rfl, heap_lt hg, fun i' j x u hx hu => ?_⟩⟩
  have hi' : i' = 0 := by
    have := (List.getElem?_eq_some_iff.1 hx).1
    simpa using this
  subst hi'
  obtain rfl : p = x := by simpa using hx
  rw [Lib.cell_of_heap hg]
  have hu' : p.cells[j]? = some u := hu
  simpa using hu'

set_option maxHeartbeats 4000000 in
set_option maxRecDepth 100000 in
theorem joined_any (v : Value) (l : List Pc) (w : World) (h : Sl pcE w v l) (hv : SmP l) (hl : l.length ≤ 8192) :
    Calls Try.prog 51 #[v] w fun e w' => ∃ v', e = .returned (.tuple #[v', .int .i64 (joinE (l.map fun p => [p]))]) ∧ w'.ownsRow w.heap.size 53 3 v' (joinS (l.map fun p => [p])).length (pcE.flat (joinS (l.map fun p => [p]))) ∧ Below w.heap.size w w' := by
  obtain ⟨i0, hi, hz0, hz1, hz2⟩ := info_parts infoPiece
  obtain ⟨i1, hj, hy0, hy1, hy2⟩ := info_parts infoSlice
  obtain ⟨W1, hmk, hown0, hg0⟩ := run_make_own (P := Try.prog) w w.heap.size 97 39 i1 (.slice none 0 0) 1 Try.underlying97 hj hy0 hy1 .i64 .i64 l.length (by rw [hy2]; omega) (by unfold maxLen; omega) (Nat.le_refl _)
  have cJ := Lib.hid fun x W (hS : Sll W x (l.map fun p => [p])) => join_any x (l.map fun p => [p]) W hS (fun m hm => by
    obtain ⟨p, hp, rfl⟩ := List.mem_map.1 hm
    exact one_err (hv p hp)) (by rw [singles]; omega)
  obtain ⟨A, cap, rfl, h2, h3, -⟩ := id h
  have H := Lib.hid h; have HO := Lib.hid hown0; have HG := Lib.hid (show Below w.heap.size w W1 from ⟨hg0.os, hg0.tape, hg0.output, hg0.size, fun k hk => hg0.block k hk (by simp)⟩)
  clear h hown0 hg0 hv
  unfold maxLen at h3
  have L1 := HG.out.size
  go_enter Try.func51, Try.ntmps51
  go_wp2_with fail
  go_loopw [4, 12] (fun vo i wr => ∃ (k : Nat) (vs : List SV) (A4 : Option Addr) (c4 : Nat), k ≤ l.length ∧ i = .int .i64 k ∧ vs.length = k ∧ vo = .slice A4 vs.length c4 ∧ Hid (Ones wr w.heap.size l vs) ∧ Hid (wr.ownsRow w.heap.size 39 1 (.slice A4 vs.length c4) vs.length (svE.flat vs)) ∧ Hid (Below w.heap.size w wr)) (fun _ i _ => l.length - (intOf i).toNat)
  case atStart => exact ⟨0, [], _, _, by omega, rfl, rfl, rfl, Lib.hid (fun i x p hx => by cases hx), HO, HG⟩
  case round =>
    obtain ⟨k, vs, A4, c4, hk, rfl, hvl, rfl, hE, hO, hB⟩ := hrel
    have hsz := hB.out.size
    by_cases hlt : k < l.length
    · obtain ⟨b, off, cap', hv, hb, hcells⟩ := H.out.pcB hlt
      obtain ⟨rfl, rfl⟩ : A = some ⟨b, off, none⟩ ∧ cap = cap' := by injection hv with e1 e2 e3; exact ⟨e1, e3⟩
      obtain ⟨c0, c1, c2⟩ := hcells _ hB.out
      have hbw : b < wr.heap.size := Nat.lt_of_lt_of_le hb hsz
      have hE' : ∀ (w8 : World) (o1 o3 : Obj), (((wr.alloc o1).alloc (.cells l[k].cells.toArray 53)).alloc o3).grownBy w8 (Value.slice A4 vs.length c4).ownBlock → Ones w8 w.heap.size l (vs ++ [⟨some ⟨wr.heap.size + 1, 0, none⟩, 1, 1⟩]) :=
        fun w8 o1 o3 hg => hE.out.step hvl hlt hO.out hsz hg
      clear hv hcells
      generalize l[k] = p at *
      obtain ⟨pk, pn, pt⟩ := p
      dsimp only at c0 c1 c2
      have HE' := Lib.hid hE'
      clear hE'
      go_wp2_with (at_builtin; refine Hid.out ?_)
      refine Lib.hid ?_
      refine wpListB_append _ rfl (.tmp 16) (.tmp 19) 97 97 rfl w.heap.size (by simp; omega) 39 i1 _ 1 24 Try.underlying97 hj hy0 hy1 hy2 rfl (by decide) _ _ _ rfl (((hO.out.alloc _).alloc _).alloc _) _ 1 _ rfl (src_one svE Try.underlying97 (off := 0) ⟨some ⟨wr.heap.size + 1, 0, none⟩, 1, 1⟩ _ (new_cells3 _ _ _ _ _)) (by unfold maxLen; omega) (by omega) ?_
      intro A8 c8 w8 hown8 hg8 _ _
      have HO8 := Lib.hid hown8
      have HE8 := Lib.hid (HE'.out _ _ _ hg8)
      have HB8 := Lib.hid (((((hB.out.alloc hsz _).alloc (by simp; omega) _).alloc (by simp; omega) _)).grown hg8 (by simp; omega) (fun g hg => (hO.out.lt g hg).1))
      clear hown8 hg8 HE'
      go_wp2_with fail
      go_roundw
      case rel => exact ⟨k + 1, vs ++ [⟨some ⟨wr.heap.size + 1, 0, none⟩, 1, 1⟩], A8, c8, by omega, by go_num, by simp [hvl], by simp [hvl], HE8, Lib.hid (by rw [List.length_append, svE.flat_append]; exact HO8.out), HB8⟩
      case measure => simp [intOf]; omega
    · have hkl : vs.length = l.length := by omega
      have hS := hE.out.sll hkl hO.out
      have HS := Lib.hid hS
      have HV := Lib.hid hvl
      clear hS hkl hvl
      go_wp2_with fail
      refine (cJ.out _ _ HS.out).mono ?_
      rintro e w2 ⟨v2, rfl, ho2, hb2⟩
      have HO2 := Lib.hid (own_base (own_zero ho2) (fun g hg => Nat.le_trans hsz (ho2.lt g hg).1))
      have HB2 := Lib.hid (hB.out.trans (hb2.mono hsz))
      clear ho2 hb2
      go_wp2
      go_ret2
      exact ⟨v2, rfl, HO2.out, HB2.out⟩

end Go.Proofs.Ytibmnkdeepmabaa
