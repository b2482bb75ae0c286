/- apply.parts: the result of a delta, what it removes and what it inserts. Condition: valid pieces that fit the string, at most 100000. -/
import Derived.Test.YtdlbjfgpfjcpaaaParts
namespace Go.Proofs.Ytdlbjfgpfjcpaaa
open Go.RowKit

structure PSt where
  s : List UInt8
  out : List UInt8
  gone : List UInt8
  put : List UInt8

def partStep (st : PSt) (p : Pc) : PSt :=
  if p.k = 1 then ⟨st.s.drop p.n.toNat, st.out ++ st.s.take p.n.toNat, st.gone, st.put⟩
  else if p.k = 3 then ⟨st.s.drop p.n.toNat, st.out, st.gone ++ st.s.take p.n.toNat, st.put⟩
  else ⟨st.s, st.out ++ p.t, st.gone, st.put ++ p.t⟩
def partSt (s : List UInt8) (l : List Pc) : PSt := l.foldl partStep ⟨s, [], [], []⟩

theorem partSt_snoc (s : List UInt8) (l : List Pc) (k : Nat) (h : k < l.length) : partSt s (l.take (k + 1)) = partStep (partSt s (l.take k)) l[k] := by
  unfold partSt
  rw [List.take_succ_eq_append_getElem h, List.foldl_append]
  rfl

/-- valid pieces that go through a string -/
structure PFit (s : List UInt8) (l : List Pc) : Prop where
  len : l.length ≤ 100000
  val : ∀ p ∈ l, p.valid = true ∧ p.n ≤ 1048576 ∧ p.t.length ≤ 1048576
  sum : (sizesS l).1 = s.length
  small : s.length ≤ 1048576

theorem addN_mono : ∀ (l : List Pc) (a : Int), (∀ p ∈ l, 0 ≤ p.n) → a ≤ l.foldl addN a
  | [], a, _ => Int.le_refl _
  | p :: l, a, h => by
    have := addN_mono l (addN a p) (fun q hq => h q (by simp [hq]))
    have hp := h p (by simp)
    rw [List.foldl_cons]
    unfold addN at this ⊢
    omega

theorem Pc.n_nonneg {p : Pc} (h : p.valid = true) : 0 ≤ p.n := by
  rcases Pc.valid_cases h with ⟨_, y, _⟩ | ⟨_, y, _⟩ | ⟨_, y, _⟩ <;> omega

/-- the pieces before place k have read so much -/
theorem PFit.at_ {s : List UInt8} {l : List Pc} (h : PFit s l) (k : Nat) : 0 ≤ (sizesS (l.take k)).1 ∧ (sizesS (l.take k)).1 ≤ s.length := by
  have h0 : ∀ p ∈ l, 0 ≤ p.n := fun p hp => Pc.n_nonneg (h.val p hp).1
  refine ⟨addN_mono (l.take k) 0 (fun p hp => h0 p (List.mem_of_mem_take hp)), ?_⟩
  rw [← h.sum]
  show (l.take k).foldl addN 0 ≤ l.foldl addN 0
  have e : l = l.take k ++ l.drop k := (List.take_append_drop k l).symm
  rw [e, List.foldl_append, ← e]
  exact addN_mono (l.drop k) _ (fun p hp => h0 p (List.mem_of_mem_drop hp))

theorem sizes_step {l : List Pc} {k : Nat} (hk : k < l.length) : (sizesS (l.take (k + 1))).1 = (sizesS (l.take k)).1 + l[k].n := by
  rw [List.take_succ_eq_append_getElem hk, sizesS_snoc]
  rfl

theorem PFit.bd {s : List UInt8} {l : List Pc} (h : PFit s l) {d : Nat} (hd : ∀ p ∈ l, p.n ≤ d ∧ p.t.length ≤ d) : ∀ k, k ≤ l.length → (partSt s (l.take k)).s = s.drop (sizesS (l.take k)).1.toNat ∧ (partSt s (l.take k)).out.length ≤ k * d ∧ (partSt s (l.take k)).gone.length ≤ k * d ∧ (partSt s (l.take k)).put.length ≤ k * d
  | 0, _ => ⟨by simp [partSt, sizesS], by simp [partSt], by simp [partSt], by simp [partSt]⟩
  | k + 1, hk => by
    obtain ⟨i1, i2, i3, i4⟩ := PFit.bd h hd k (by omega)
    have v1 := (h.val l[k] (List.getElem_mem (by omega))).1
    obtain ⟨v2, v3⟩ := hd l[k] (List.getElem_mem (by omega))
    have hn := Pc.n_nonneg v1
    obtain ⟨s1, s2⟩ := h.at_ k
    have hst := sizes_step (l := l) (k := k) (by omega)
    have e : (k + 1) * d = k * d + d := Nat.succ_mul k d
    rw [partSt_snoc s l k (by omega), hst, e]
    have hdr : (s.drop (sizesS (l.take k)).1.toNat).drop l[k].n.toNat = s.drop ((sizesS (l.take k)).1 + l[k].n).toNat := by
      rw [List.drop_drop]
      congr 1
      omega
    have ht : ∀ x : List UInt8, (x.take l[k].n.toNat).length ≤ d := fun x => by
      have := List.length_take_le l[k].n.toNat x
      omega
    unfold partStep
    rw [i1]
    generalize k * d = c at *
    rcases Pc.valid_cases v1 with ⟨x, _, _⟩ | ⟨x, _, _⟩ | ⟨x, y, _⟩
    · rw [if_pos x]
      have := ht (s.drop (sizesS (l.take k)).1.toNat)
      exact ⟨hdr, by simp only [List.length_append]; omega, by dsimp only; omega, by dsimp only; omega⟩
    · rw [if_neg (by omega), if_pos x]
      have := ht (s.drop (sizesS (l.take k)).1.toNat)
      exact ⟨hdr, by dsimp only; omega, by simp only [List.length_append]; omega, by dsimp only; omega⟩
    · rw [if_neg (by omega), if_neg (by omega)]
      exact ⟨by rw [y, Int.add_zero], by simp only [List.length_append]; omega, by dsimp only; omega, by simp only [List.length_append]; omega⟩

/-- the map of parts -/
def doesMap (w : World) : Array MapEntry := #[
  { key := .int .u8 1, val := .func (.func 107) #[] #[.pointer (some ⟨w.heap.size + 1, 0, none⟩), .pointer (some ⟨w.heap.size + 1 + 1 + 1 + 1, 0, none⟩)], born := 0 },
  { key := .int .u8 3, val := .func (.func 108) #[] #[.pointer (some ⟨w.heap.size + 1 + 1, 0, none⟩), .pointer (some ⟨w.heap.size + 1 + 1 + 1 + 1, 0, none⟩)], born := 1 },
  { key := .int .u8 2, val := .func (.func 109) #[] #[.pointer (some ⟨w.heap.size + 1, 0, none⟩), .pointer (some ⟨w.heap.size + 1 + 1 + 1, 0, none⟩)], born := 2 }]

/-- the world with the six variables of parts -/
def W6 (w : World) (s : List UInt8) : World := (((((w.alloc (.cells #[.string ⟨s.toArray⟩] 9)).alloc (.cells #[.pointer none, .slice none 0 0] 114)).alloc (.cells #[.pointer none, .slice none 0 0] 114)).alloc (.cells #[.pointer none, .slice none 0 0] 114)).alloc (.cells #[.func (.func 106) #[] #[.pointer (some ⟨w.heap.size, 0, none⟩)]] 121)).alloc (.map #[] 0)

theorem W6_map (w : World) (s : List UInt8) : (W6 w s).heap[w.heap.size + 1 + 1 + 1 + 1 + 1]? = some (.map #[] 0) := by
  have := heap_alloc_new (((((w.alloc (.cells #[.string ⟨s.toArray⟩] 9)).alloc (.cells #[.pointer none, .slice none 0 0] 114)).alloc (.cells #[.pointer none, .slice none 0 0] 114)).alloc (.cells #[.pointer none, .slice none 0 0] 114)).alloc (.cells #[.func (.func 106) #[] #[.pointer (some ⟨w.heap.size, 0, none⟩)]] 121)) (.map #[] 0)
  simpa [W6] using this

theorem PS.start (w w3 : World) (s : List UInt8) (hm : w3.heap[w.heap.size + 1 + 1 + 1 + 1 + 1]? = some (.map (doesMap w) 3)) (hf : Fr (· = w.heap.size + 1 + 1 + 1 + 1 + 1) (W6 w s) w3) :
    PS w3 w.heap.size (w.heap.size + 1 + 1 + 1 + 1) (w.heap.size + 1 + 1 + 1 + 1 + 1) (w.heap.size + 1) (w.heap.size + 1 + 1) (w.heap.size + 1 + 1 + 1) (doesMap w) none none none s [] [] [] ∧ Below w.heap.size w w3 := by
  have fr : ∀ (W : World) (o : Obj), Fr (fun _ => False) W (W.alloc o) := fun W o => Fr.alloc _ W o
  have hW : Below w.heap.size w (W6 w s) := (((((((Below.refl _ _).alloc (Nat.le_refl _) _).alloc (by simp) _).alloc (by simp; omega) _).alloc (by simp; omega) _).alloc (by simp; omega) _).alloc (by simp; omega) _)
  refine ⟨⟨?_, ?_, hm, ?_, ?_, ?_, by omega, by omega, by omega, fun _ h => (by cases h), fun _ h => (by cases h), fun _ h => (by cases h)⟩, hW.trans (hf.below (by simp [W6]; omega) (fun k hk => by omega))⟩
  · refine Var.keep ?_ hf (by omega)
    have h1 := Var.new w 9 (.string ⟨s.toArray⟩)
    exact ((((h1.keep (fr _ _) id).keep (fr _ _) id).keep (fr _ _) id).keep (fr _ _) id).keep (fr _ _) id
  · refine Var.keep ?_ hf (by omega)
    have h1 := Var.new ((((w.alloc (.cells #[.string ⟨s.toArray⟩] 9)).alloc (.cells #[.pointer none, .slice none 0 0] 114)).alloc (.cells #[.pointer none, .slice none 0 0] 114)).alloc (.cells #[.pointer none, .slice none 0 0] 114)) 121 (.func (.func 106) #[] #[.pointer (some ⟨w.heap.size, 0, none⟩)])
    simp only [World.size_alloc] at h1
    exact h1.keep (fr _ _) id
  · refine Bd.keep ?_ hf (by omega) (fun _ h => by cases h)
    have h1 := Bd.new (w.alloc (.cells #[.string ⟨s.toArray⟩] 9))
    simp only [World.size_alloc] at h1
    exact (((h1.keep (fr _ _) id (fun _ _ => id)).keep (fr _ _) id (fun _ _ => id)).keep (fr _ _) id (fun _ _ => id)).keep (fr _ _) id (fun _ _ => id)
  · refine Bd.keep ?_ hf (by omega) (fun _ h => by cases h)
    have h1 := Bd.new ((w.alloc (.cells #[.string ⟨s.toArray⟩] 9)).alloc (.cells #[.pointer none, .slice none 0 0] 114))
    simp only [World.size_alloc] at h1
    exact ((h1.keep (fr _ _) id (fun _ _ => id)).keep (fr _ _) id (fun _ _ => id)).keep (fr _ _) id (fun _ _ => id)
  · refine Bd.keep ?_ hf (by omega) (fun _ h => by cases h)
    have h1 := Bd.new (((w.alloc (.cells #[.string ⟨s.toArray⟩] 9)).alloc (.cells #[.pointer none, .slice none 0 0] 114)).alloc (.cells #[.pointer none, .slice none 0 0] 114))
    simp only [World.size_alloc] at h1
    exact (h1.keep (fr _ _) id (fun _ _ => id)).keep (fr _ _) id (fun _ _ => id)

/-- a builder while another one's bytes are marked -/
theorem bd_other {W W' : World} {b1 b2 : Nat} {r1 r2 : Option Nat} {o1 o2 : List UInt8} (h1 : Bd W b1 r1 o1) (h2 : Bd W b2 r2 o2) (ha : apartRows r1 r2) (hf : Fr (fun k => some k = r1) W W') : Bd W' b2 r2 o2 :=
  h2.keep hf (fun e => by
    obtain ⟨c, hc⟩ := h2.blk
    obtain ⟨cur, hc'⟩ := h1.row_block b2 e.symm
    exact ty_ne hc hc' (by decide) rfl) (fun g hg e => ha g e.symm hg)

/-- at the head of the loop of parts, behind k pieces -/
structure PInv (w wr : World) (s : List UInt8) (l : List Pc) (k : Nat) (r1 r2 r3 : Option Nat) : Prop where
  ps : PS wr w.heap.size (w.heap.size + 1 + 1 + 1 + 1) (w.heap.size + 1 + 1 + 1 + 1 + 1) (w.heap.size + 1) (w.heap.size + 1 + 1) (w.heap.size + 1 + 1 + 1) (doesMap w) r1 r2 r3 (partSt s (l.take k)).s (partSt s (l.take k)).out (partSt s (l.take k)).gone (partSt s (l.take k)).put
  n1 : ∀ g, r1 = some g → w.heap.size ≤ g
  n2 : ∀ g, r2 = some g → w.heap.size ≤ g
  n3 : ∀ g, r3 = some g → w.heap.size ≤ g
  bel : Below w.heap.size w wr

theorem new_row {r r' : Option Nat} {B n : Nat} (h : r' = r ∨ ∃ g, r' = some g ∧ n ≤ g) (hr : ∀ g, r = some g → B ≤ g) (hn : B ≤ n) : ∀ g, r' = some g → B ≤ g := by
  intro g hg
  rcases h with h | ⟨g', h, hl⟩
  · exact hr g (h ▸ hg)
  · rw [h] at hg
    injection hg with hg
    omega

set_option maxHeartbeats 4000000 in
set_option maxRecDepth 100000 in
theorem parts_any (s : List UInt8) (v : Value) (l : List Pc) (w : World) (h : Sl pcE w v l) (hd : PFit s l) :
    Calls Try.prog 76 #[.string ⟨s.toArray⟩, v] w fun e w' => e = .returned (.tuple #[.string ⟨(partSt s l).out.toArray⟩, .string ⟨(partSt s l).gone.toArray⟩, .string ⟨(partSt s l).put.toArray⟩]) ∧ Below w.heap.size w w' := by
  obtain ⟨A, cap, hv, h2, h3, -⟩ := id h
  have Hh := Lib.hid h; clear h
  subst hv
  unfold maxLen at h3
  have hlen := hd.len
  have Hd := Lib.hid hd; clear hd
  have hmf : ∀ (fn : Fn) (first cap : Array Value) (w : World), (Instr.makeFunc fn first cap).run Try.prog w = .ok (.func fn first cap) w := fun _ _ _ _ => rfl
  have hmm := @run_makeMap Try.prog
  go_enter Try.func76, Try.ntmps76
  go_wp2_with (first
    | ((with_reducible refine wpList_insert_u8 rfl 123 5 122 (.tmp 15) (.const (.int .u8 1)) (.tmp 16) rfl Try.underlying123 Try.underlying5 (w.heap.size + 1 + 1 + 1 + 1 + 1) #[] 0 1 _ rfl rfl rfl ?_ rfl ?_)
       · exact W6_map w s
       intro w1 m1 f1 z1
       have lm1 := heap_lt m1)
    | ((with_reducible refine wpList_insert_u8 rfl 123 5 122 (.tmp 15) (.const (.int .u8 3)) (.tmp 17) rfl Try.underlying123 Try.underlying5 (w.heap.size + 1 + 1 + 1 + 1 + 1) _ 1 3 _ rfl rfl rfl m1 rfl ?_)
       intro w2 m2 f2 z2)
    | ((with_reducible refine wpList_insert_u8 rfl 123 5 122 (.tmp 15) (.const (.int .u8 2)) (.tmp 18) rfl Try.underlying123 Try.underlying5 (w.heap.size + 1 + 1 + 1 + 1 + 1) _ 2 2 _ rfl rfl rfl m2 rfl ?_)
       intro w3 m3 f3 z3
       obtain ⟨ps, bl⟩ := PS.start w w3 s m3 ((f1.trans f2).trans f3)
       have Ps := Lib.hid ps
       have Bl := Lib.hid bl
       clear m1 f1 z1 m2 f2 z2 m3 f3 z3 ps bl))
  go_loopw [22] (fun i wr => ∃ (k : Nat) (r1 r2 r3 : Option Nat), k ≤ l.length ∧ i = .int .i64 k ∧ PInv w wr s l k r1 r2 r3) (fun i _ => l.length - (intOf i).toNat)
  case atStart => exact ⟨0, none, none, none, by omega, rfl, Ps.out, fun _ h => (by cases h), fun _ h => (by cases h), fun _ h => (by cases h), Bl.out⟩
  case round =>
    obtain ⟨k, r1, r2, r3, hk, rfl, hI⟩ := hrel
    have HI := Lib.hid hI; clear hI
    obtain ⟨g1, g2, g3, g4⟩ := Hd.out.bd (d := 1048576) (fun p hp => (Hd.out.val p hp).2) k hk
    obtain ⟨g5, g6⟩ := Hd.out.at_ k
    have g7 := Hd.out.small
    have G1 := Lib.hid g1; clear g1
    by_cases hlt : k < l.length
    · obtain ⟨b, off, cap', hv, hb, hcells⟩ := Hh.out.pcB hlt
      obtain ⟨rfl, rfl⟩ : A = some ⟨b, off, none⟩ ∧ cap = cap' := by injection hv with e1 e2 e3; exact ⟨e1, e3⟩
      obtain ⟨q1, q2, q3⟩ := Hd.out.val l[k] (List.getElem_mem hlt)
      have hsn := partSt_snoc s l k hlt
      have Hsn := Lib.hid hsn; clear hsn
      have hn0 := Pc.n_nonneg q1
      have hst := sizes_step hlt
      obtain ⟨-, g8⟩ := Hd.out.at_ (k + 1)
      rw [hst] at g8
      have hsl : (partSt s (l.take k)).s.length = s.length - (sizesS (l.take k)).1.toNat := by rw [G1.out, List.length_drop]
      have hpn : l[k].n ≤ (partSt s (l.take k)).s.length := by rw [hsl]; omega
      have hps : (partSt s (l.take k)).s.length ≤ 1048576 := by rw [hsl]; omega
      clear hst hsl g8 g5 g6 G1
      obtain ⟨c0, c1, c2⟩ := hcells _ HI.out.bel
      have hbw : b < wr.heap.size := Nat.lt_of_lt_of_le hb HI.out.bel.size
      have Hcs := Lib.hid (Pc.valid_cases q1)
      clear hv hcells q1
      generalize l[k] = p at *
      have Ha := fun o => HI.out.ps.alloc o
      have HA := Lib.hid Ha; clear Ha
      have hbs := HI.out.bel.size
      have Hm := fun o : Obj => (HI.out.ps.alloc o).m
      rcases Hcs.out with ⟨x, -, -⟩ | ⟨x, -, -⟩ | ⟨x, -, -⟩
      · have hlk := run_lookup_u8 (P := Try.prog) Try.underlying123 Try.underlying5 (Hm (.cells #[.int .u8 p.k, .int .i64 p.n, .string ⟨p.t.toArray⟩] 31)) p.k 0 (.func (.func 107) #[] #[.pointer (some ⟨w.heap.size + 1, 0, none⟩), .pointer (some ⟨w.heap.size + 1 + 1 + 1 + 1, 0, none⟩)]) (by rw [x]; rfl)
        have hst : partStep (partSt s (l.take k)) p = ⟨(partSt s (l.take k)).s.drop p.n.toNat, (partSt s (l.take k)).out ++ (partSt s (l.take k)).s.take p.n.toNat, (partSt s (l.take k)).gone, (partSt s (l.take k)).put⟩ := by simp [partStep, x]
        have Hst := Lib.hid hst; clear hst Hm x
        go_wp2_with fail
        refine (keepPart p _ _ _ _ _ _ _ _ r1 r2 r3 _ _ _ _ (HA.out _) hn0 hpn hps (by omega)).mono ?_
        rintro e w1 ⟨rfl, r1', P1, F1, N1⟩
        have P1' := Lib.hid P1; have F1' := Lib.hid F1; have N1' := Lib.hid N1
        clear P1 F1 N1 hlk
        go_wp2
        go_roundw
        case rel =>
          refine ⟨k + 1, r1', r2, r3, by omega, by go_num, by rw [Hsn.out, Hst.out]; exact P1'.out, new_row N1'.out HI.out.n1 (by simp; omega), HI.out.n2, HI.out.n3, (HI.out.bel.alloc hbs _).trans (F1'.out.below (by simp; omega) (fun j hj => ?_))⟩
          rcases hj with hj | hj | hj
          · omega
          · omega
          · exact HI.out.n1 j hj.symm
        case measure => simp [intOf]; omega
      · have hlk := run_lookup_u8 (P := Try.prog) Try.underlying123 Try.underlying5 (Hm (.cells #[.int .u8 p.k, .int .i64 p.n, .string ⟨p.t.toArray⟩] 31)) p.k 1 (.func (.func 108) #[] #[.pointer (some ⟨w.heap.size + 1 + 1, 0, none⟩), .pointer (some ⟨w.heap.size + 1 + 1 + 1 + 1, 0, none⟩)]) (by rw [x]; rfl)
        have hst : partStep (partSt s (l.take k)) p = ⟨(partSt s (l.take k)).s.drop p.n.toNat, (partSt s (l.take k)).out, (partSt s (l.take k)).gone ++ (partSt s (l.take k)).s.take p.n.toNat, (partSt s (l.take k)).put⟩ := by simp [partStep, x]
        have Hst := Lib.hid hst; clear hst Hm x
        go_wp2_with fail
        refine (gonePart p _ _ _ _ _ _ _ _ r2 r3 r1 _ _ _ _ (HA.out _).rot hn0 hpn hps (by omega)).mono ?_
        rintro e w1 ⟨rfl, r2', P1, F1, N1⟩
        have P1' := Lib.hid P1; have F1' := Lib.hid F1; have N1' := Lib.hid N1
        clear P1 F1 N1 hlk
        go_wp2
        go_roundw
        case rel =>
          refine ⟨k + 1, r1, r2', r3, by omega, by go_num, by rw [Hsn.out, Hst.out]; exact P1'.out.rot.rot, HI.out.n1, new_row N1'.out HI.out.n2 (by simp; omega), HI.out.n3, (HI.out.bel.alloc hbs _).trans (F1'.out.below (by simp; omega) (fun j hj => ?_))⟩
          rcases hj with hj | hj | hj
          · omega
          · omega
          · exact HI.out.n2 j hj.symm
        case measure => simp [intOf]; omega
      · have hlk := run_lookup_u8 (P := Try.prog) Try.underlying123 Try.underlying5 (Hm (.cells #[.int .u8 p.k, .int .i64 p.n, .string ⟨p.t.toArray⟩] 31)) p.k 2 (.func (.func 109) #[] #[.pointer (some ⟨w.heap.size + 1, 0, none⟩), .pointer (some ⟨w.heap.size + 1 + 1 + 1, 0, none⟩)]) (by rw [x]; rfl)
        have hst : partStep (partSt s (l.take k)) p = ⟨(partSt s (l.take k)).s, (partSt s (l.take k)).out ++ p.t, (partSt s (l.take k)).gone, (partSt s (l.take k)).put ++ p.t⟩ := by simp [partStep, x]
        have Hst := Lib.hid hst; clear hst Hm x
        go_wp2_with fail
        refine (putPart p _ _ _ _ _ _ _ _ r1 r2 r3 _ _ _ _ (HA.out _) q3 (by omega) (by omega)).mono ?_
        rintro e w1 ⟨rfl, r1', r3', P1, F1, N1, N3⟩
        have P1' := Lib.hid P1; have F1' := Lib.hid F1; have N1' := Lib.hid N1; have N3' := Lib.hid N3
        clear P1 F1 N1 N3 hlk
        go_wp2
        go_roundw
        case rel =>
          refine ⟨k + 1, r1', r2, r3', by omega, by go_num, by rw [Hsn.out, Hst.out]; exact P1'.out, new_row N1'.out HI.out.n1 (by simp; omega), HI.out.n2, new_row N3'.out HI.out.n3 (by simp; omega), (HI.out.bel.alloc hbs _).trans (F1'.out.below (by simp; omega) (fun j hj => ?_))⟩
          rcases hj with hj | hj | hj | hj
          · omega
          · exact HI.out.n1 j hj.symm
          · omega
          · exact HI.out.n3 j hj.symm
        case measure => simp [intOf]; omega
    · have hkl : l.take k = l := List.take_of_length_le (by omega)
      have hP := HI.out.ps
      rw [hkl] at hP
      have HP := Lib.hid hP
      clear hkl hP
      go_wp2_with fail
      refine (bdString_any _ r1 _ wr HP.out.d1).mono ?_
      rintro e w1 ⟨rfl, f1⟩
      have D2 := Lib.hid (bd_other HP.out.d1 HP.out.d2 HP.out.a12 f1)
      have D3 := Lib.hid (bd_other HP.out.d1 HP.out.d3 HP.out.a13 f1)
      have F1 := Lib.hid f1; clear f1
      go_wp2_with fail
      refine (bdString_any _ r2 _ w1 D2.out).mono ?_
      rintro e w2 ⟨rfl, f2⟩
      have D4 := Lib.hid (bd_other D2.out D3.out HP.out.a23 f2)
      have F2 := Lib.hid f2; clear f2
      go_wp2_with fail
      refine (bdString_any _ r3 _ w2 D4.out).mono ?_
      rintro e w4 ⟨rfl, f3⟩
      go_wp2
      go_ret3
      refine ⟨rfl, HI.out.bel.trans ((F1.out.below HI.out.bel.size (fun j hj => HI.out.n1 j hj.symm)).trans ((F2.out.below ?_ (fun j hj => HI.out.n2 j hj.symm)).trans (f3.below ?_ (fun j hj => HI.out.n3 j hj.symm))))⟩
      · exact Nat.le_trans HI.out.bel.size F1.out.size
      · exact Nat.le_trans (Nat.le_trans HI.out.bel.size F1.out.size) F2.out.size

end Go.Proofs.Ytdlbjfgpfjcpaaa
