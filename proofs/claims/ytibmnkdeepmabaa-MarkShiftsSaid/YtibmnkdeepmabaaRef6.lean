/- quartoref06.Runs, turned, left, right: what they return. Condition: valid pieces of moderate size. -/
import Derived.Test.YtibmnkdeepmabaaShift1
import Derived.Test.YtibmnkdeepmabaaRef4a
import Derived.StillTailTactics
import Derived.IntWalk
namespace Go.Proofs.Ytibmnkdeepmabaa
open Go.RowKit

def Rn.cells (r : Rn) : List Value := [.int .i64 r.a, .int .i64 r.o, .int .i64 r.n]
def rnE : Enc Rn := ⟨3, by decide, Rn.cells, fun _ => rfl, by
  intro x u h
  simp [Rn.cells] at h
  rcases h with rfl | rfl | rfl <;> rfl⟩
theorem infoRun : (Try.prog.info? 107).map (fun i => (i.zero, i.size, i.bytes)) = some (some (.agg #[.int .i64 0, .int .i64 0, .int .i64 0]), 3, 24) := by kernel_rfl
theorem Sl.rn {w : World} {v : Value} {l : List Rn} (h : Sl rnE w v l) {k : Nat} (hk : k < l.length) :
    ∃ b off cap, v = .slice (some ⟨b, off, none⟩) l.length cap ∧ b < w.heap.size ∧ ∀ w', Below w.heap.size w w' → w'.cell? ⟨b, off + k * 3, none⟩ = some (.int .i64 l[k].a) ∧ w'.cell? ⟨b, off + k * 3 + 1, none⟩ = some (.int .i64 l[k].o) ∧ w'.cell? ⟨b, off + k * 3 + 2, none⟩ = some (.int .i64 l[k].n) := by
  obtain ⟨A, cap, rfl, h2, h3, h4⟩ := h
  obtain ⟨b, off, rfl, hb, hc⟩ := h4 (by omega)
  have hx : l[k]? = some l[k] := List.getElem?_eq_getElem hk
  exact ⟨b, off, cap, rfl, hb, fun w' hb' => ⟨(hb'.cell (p := ⟨b, _, none⟩) hb).trans (hc k 0 _ _ hx rfl), (hb'.cell (p := ⟨b, _, none⟩) hb).trans (hc k 1 _ _ hx rfl), (hb'.cell (p := ⟨b, _, none⟩) hb).trans (hc k 2 _ _ hx rfl)⟩⟩
theorem runs_len (l : List Pc) : ∀ a o : Int, (runsS a o l).length ≤ l.length := by
  induction l with
  | nil => intro a o; simp [runsS]
  | cons p l ih =>
    intro a o
    simp only [runsS]
    split
    · have := ih (a + p.n) (o + p.n); simp; omega
    · split
      · have := ih (a + p.n) o; simp; omega
      · have := ih a (o + p.t.length); simp; omega

set_option maxHeartbeats 4000000 in
set_option maxRecDepth 100000 in
theorem refRuns_any (v : Value) (l : List Pc) (w : World) (h : Sl pcE w v l) (hl : Mod l) :
    Calls Try.prog 61 #[v] w fun e w' => ∃ v', e = .returned v' ∧ w'.ownsRow w.heap.size 107 3 v' (runsT false l).length (rnE.flat (runsT false l)) ∧ Below w.heap.size w w' := by
  obtain ⟨j0, hj, jz0, jz1, jz2⟩ := info_parts infoRun
  obtain ⟨A, cap, hv, h2, h3, -⟩ := id h
  have Hh := Lib.hid h; clear h
  subst hv
  unfold maxLen at h3
  have hlen := hl.2.1
  go_enter Try.func61, Try.ntmps61
  go_wp2_with fail
  go_loopw [3, 4, 5, 6] (fun vo a o i wr => ∃ (k : Nat) (R : List Rn) (A5 : Option Addr) (c5 : Nat), k ≤ l.length ∧ R.length ≤ k ∧ i = .int .i64 k ∧ a = .int .i64 (inL (l.take k)) ∧ o = .int .i64 (outL (l.take k)) ∧ vo = .slice A5 R.length c5 ∧ Hid (runsT false (l.take k) = R) ∧ Hid (wr.ownsRow w.heap.size 107 3 (.slice A5 R.length c5) R.length (rnE.flat R)) ∧ Hid (Below w.heap.size w wr)) (fun _ _ _ i _ => l.length - (intOf i).toNat)
  case atStart => exact ⟨0, [], none, 0, by omega, by simp, rfl, rfl, rfl, rfl, Lib.hid rfl, Lib.hid (World.ownsRow_nil _ _ _ _), Lib.hid (Below.refl _ _)⟩
  case round =>
    obtain ⟨k, R, A5, c5, hk, hRk, rfl, rfl, rfl, rfl, hR, hO, hB⟩ := hrel
    obtain ⟨b1, b2, b3, b4⟩ := hl.bd k
    by_cases hlt : k < l.length
    · obtain ⟨b, off, cap', hv, hb, hcells⟩ := Hh.out.pcB hlt
      obtain ⟨rfl, rfl⟩ : A = some ⟨b, off, none⟩ ∧ cap = cap' := by injection hv with e1 e2 e3; exact ⟨e1, e3⟩
      obtain ⟨c0, c1, c2⟩ := hcells _ hB.out
      have hbw : b < wr.heap.size := Nat.lt_of_lt_of_le hb hB.out.size
      have hval := hl.1 l[k] (List.getElem_mem hlt)
      obtain ⟨d1, d2, d3⟩ := hl.2.2 l[k] (List.getElem_mem hlt)
      have htk : l.take (k + 1) = l.take k ++ [l[k]] := List.take_succ_eq_append_getElem hlt
      have hsn := runsT_snoc false (l.take k) l[k] (fun p hp => hl.1 p (List.mem_of_mem_take hp)) hval
      obtain ⟨s1, s2⟩ := io_snoc (l.take k) l[k]
      rw [← htk, hR.out] at hsn
      rw [← htk] at s1 s2
      clear hv htk
      generalize l[k] = p at *
      generalize inL (l.take k) = ia at *
      generalize outL (l.take k) = oa at *
      have Hsn := Lib.hid hsn; have S1 := Lib.hid s1; have S2 := Lib.hid s2; have Hval := Lib.hid hval
      clear hsn s1 s2 hval
      by_cases h1 : p.k = 1
      · have e1 : (p.k == 1) = true := by simp [h1]
        have hc8 := fun W hb => (hcells W hb)
        have Hc8 := Lib.hid hc8
        have Hk := Lib.hid h1
        clear h1 hcells hc8
        go_wp2_with (
          at_builtin
          refine wpListB_append _ rfl (.tmp 19) (.tmp 28) 89 89 rfl w.heap.size (by have := hB.out.size; simp; omega) 107 j0 _ 3 24 Try.underlying89 hj jz0 jz1 jz2 rfl (by decide) _ _ _ rfl (hO.out.alloc _) _ 1 _ rfl (src_one rnE Try.underlying89 (off := 0) ⟨ia, oa, p.n⟩ _ ?_) ?_ ?_ ?_
          · exact new_cells _ _ _
          · unfold maxLen; omega
          · omega
          intro A8 c8 w8 hown8 hg8 _ _
          have hb8 := (hB.out.alloc hB.out.size _).grown hg8 (by have := hB.out.size; simp; omega) (fun g hg => (hO.out.lt g hg).1)
          obtain ⟨c0', c1', c2'⟩ := Hc8.out _ hb8
          have hbw' : b < w8.heap.size := Nat.lt_of_lt_of_le hb hb8.size
          have Ho8 := Lib.hid hown8; have Hb8 := Lib.hid hb8
          clear hown8 hg8 hb8)
        go_roundw
        case rel =>
          have hz : p.t.length = 0 := by
            have hk2 := Hk.out
            rcases Pc.valid_cases Hval.out with ⟨x, y, z⟩ | ⟨x, y, z⟩ | ⟨x, y, z⟩
            · rw [z]; rfl
            · omega
            · omega
          refine ⟨k + 1, R ++ [⟨ia, oa, p.n⟩], A8, c8, by omega, by simp; omega, by go_num, by rw [S1.out], ?_, by simp, Lib.hid ?_, Lib.hid ?_, Hb8⟩
          · rw [S2.out, hz]; simp [Pc.out, Hk.out]
          · rw [Hsn.out, if_pos Hk.out]; rfl
          · rw [List.length_append, rnE.flat_append]; exact Ho8.out
        case measure => simp [intOf]; omega
      · have e1 : (p.k == 1) = false := by simp [h1]
        have Hk := Lib.hid h1
        clear h1 hcells
        go_wp2
        go_roundw
        case rel =>
          refine ⟨k + 1, R, A5, c5, by omega, by omega, by go_num, by rw [S1.out], ?_, rfl, Lib.hid ?_, hO, hB⟩
          · rw [S2.out]
            congr 2
            have hk2 := Hk.out
            rcases Pc.valid_cases Hval.out with ⟨x, y, z⟩ | ⟨x, y, z⟩ | ⟨x, y, z⟩
            · exact absurd x hk2
            · simp [Pc.out, x, z]
            · simp [Pc.out, x]
          · rw [Hsn.out, if_neg Hk.out, List.append_nil]
        case measure => simp [intOf]; omega
    · have hkl : l.take k = l := List.take_of_length_le (by omega)
      have hR' := hR.out
      rw [hkl] at hR'
      have HR' := Lib.hid hR'
      clear hkl hR'
      go_wp2
      go_ret
      exact ⟨_, rfl, by rw [HR'.out]; exact hO.out, hB.out⟩

/-- the specification's left: it goes on behind the position -/
def leftQ (x : Int) : Int → List Rn → Int
  | o, [] => o
  | o, r :: l => leftQ x (if r.a < x then r.o + min (x - r.a) r.n else o) l
def Rn.okL (l : List Rn) : Prop := ∀ r ∈ l, r.ok
theorem leftQ_step (x o : Int) (l : List Rn) (k : Nat) (h : k < l.length) : leftQ x o (l.drop k) = leftQ x (if l[k].a < x then l[k].o + min (x - l[k].a) l[k].n else o) (l.drop (k + 1)) := by
  rw [List.drop_eq_getElem_cons h, leftQ]

set_option maxHeartbeats 2000000 in
set_option maxRecDepth 100000 in
theorem refLeft_any (v : Value) (xs : List Rn) (x : Int) (w : World) (h : Sl rnE w v xs) (hok : Rn.okL xs) (h0 : 0 ≤ x) (h1 : x ≤ 10000000000000) :
    Calls Try.prog 60 #[v, .int .i64 x] w fun e w' => e = .returned (.int .i64 (leftQ x 0 xs)) ∧ Below w.heap.size w w' := by
  obtain ⟨A, cap, rfl, h2, h3, -⟩ := id h
  have H := Lib.hid h; clear h
  have Hok := Lib.hid hok; clear hok
  unfold maxLen at h3
  go_enter Try.func60, Try.ntmps60
  go_wp2_with fail
  go_loopw [5, 6] (fun o i wr => ∃ (k : Nat) (z : Int), k ≤ xs.length ∧ i = .int .i64 k ∧ o = .int .i64 z ∧ Hid (leftQ x 0 xs = leftQ x z (xs.drop k)) ∧ Hid (Below w.heap.size w wr)) (fun _ i _ => xs.length - (intOf i).toNat)
  case atStart => exact ⟨0, 0, by omega, rfl, rfl, Lib.hid rfl, Lib.hid (Below.refl _ _)⟩
  case round =>
    obtain ⟨k, z, hk, rfl, rfl, hL, hB⟩ := hrel
    by_cases hlt : k < xs.length
    · obtain ⟨b, off, cap', hv, hb, hcells⟩ := H.out.rn hlt
      obtain ⟨rfl, rfl⟩ : A = some ⟨b, off, none⟩ ∧ cap = cap' := by injection hv with e1 e2 e3; exact ⟨e1, e3⟩
      obtain ⟨c0, c1, c2⟩ := hcells _ hB.out
      have hbw : b < wr.heap.size := Nat.lt_of_lt_of_le hb hB.out.size
      obtain ⟨r1, r2, r3, r4, r5, r6⟩ := Hok.out xs[k] (List.getElem_mem hlt)
      have hst := leftQ_step x z xs k hlt
      have hi1 : (0 : Int) ≤ (k : Int) := by omega
      have hi2 : (k : Int) < (xs.length : Int) := by omega
      have hi3 : (k : Int).toNat = k := by omega
      clear hv hcells
      generalize xs[k] = r at *
      have Hst := Lib.hid hst; clear hst
      by_cases hx : r.a < x
      · have hm1 : IntKind.i64.wrap (x - r.a) = x - r.a := IntWalk.i64_in _ (by omega)
        have Hx := Lib.hid hx
        by_cases hm : x - r.a ≤ r.n
        · have hsum : IntKind.i64.wrap (r.o + (x - r.a)) = r.o + (x - r.a) := IntWalk.i64_in _ (by omega)
          have hb1 : min (x - r.a) r.n = x - r.a := by omega
          have Hb1 := Lib.hid hb1; clear hb1
          go_wp2_with fail
          go_quiet (fail)
          go_wp2
          go_roundw
          case rel => exact ⟨k + 1, _, by omega, by go_num, rfl, Lib.hid (by rw [hL.out, Hst.out, if_pos Hx.out, Hb1.out]), Lib.hid (below_drewN hB.out _)⟩
          case measure => simp [intOf]; omega
        · have hsum : IntKind.i64.wrap (r.o + r.n) = r.o + r.n := IntWalk.i64_in _ (by omega)
          have hb1 : min (x - r.a) r.n = r.n := by omega
          have Hb1 := Lib.hid hb1; clear hb1
          go_wp2_with fail
          go_quiet (fail)
          go_wp2
          go_roundw
          case rel => exact ⟨k + 1, _, by omega, by go_num, rfl, Lib.hid (by rw [hL.out, Hst.out, if_pos Hx.out, Hb1.out]), Lib.hid (below_drewN hB.out _)⟩
          case measure => simp [intOf]; omega
      · have Hx := Lib.hid hx
        go_wp2
        go_roundw
        case rel => exact ⟨k + 1, _, by omega, by go_num, rfl, Lib.hid (by rw [hL.out, Hst.out, if_neg Hx.out]), hB⟩
        case measure => simp [intOf]; omega
    · have hL' := hL.out
      rw [List.drop_eq_nil_of_le (by omega)] at hL'
      have HL := Lib.hid hL'
      clear hL'
      go_wp2
      go_ret
      exact ⟨by rw [HL.out]; rfl, hB.out⟩

theorem rightP_step (x e : Int) (l : List Rn) (k : Nat) (h : k < l.length) : rightP x e (l.drop k) = if x < l[k].a + l[k].n then l[k].o + max 0 (x - l[k].a) else rightP x e (l.drop (k + 1)) := by
  rw [List.drop_eq_getElem_cons h, rightP]

set_option maxHeartbeats 2000000 in
set_option maxRecDepth 100000 in
theorem refRight_any (v : Value) (xs : List Rn) (x e : Int) (w : World) (h : Sl rnE w v xs) (hok : Rn.okL xs) (h0 : 0 ≤ x) (h1 : x ≤ 10000000000000) :
    Calls Try.prog 62 #[v, .int .i64 x, .int .i64 e] w fun E w' => E = .returned (.int .i64 (rightP x e xs)) ∧ Below w.heap.size w w' := by
  obtain ⟨A, cap, rfl, h2, h3, -⟩ := id h
  have H := Lib.hid h; clear h
  have Hok := Lib.hid hok; clear hok
  unfold maxLen at h3
  go_enter Try.func62, Try.ntmps62
  go_wp2_with fail
  go_loopw [7] (fun i wr => ∃ k : Nat, k ≤ xs.length ∧ i = .int .i64 k ∧ Hid (rightP x e xs = rightP x e (xs.drop k)) ∧ Hid (Below w.heap.size w wr)) (fun i _ => xs.length - (intOf i).toNat)
  case atStart => exact ⟨0, by omega, rfl, Lib.hid rfl, Lib.hid (Below.refl _ _)⟩
  case round =>
    obtain ⟨k, hk, rfl, hL, hB⟩ := hrel
    by_cases hlt : k < xs.length
    · obtain ⟨b, off, cap', hv, hb, hcells⟩ := H.out.rn hlt
      obtain ⟨rfl, rfl⟩ : A = some ⟨b, off, none⟩ ∧ cap = cap' := by injection hv with e1 e2 e3; exact ⟨e1, e3⟩
      obtain ⟨c0, c1, c2⟩ := hcells _ hB.out
      have hbw : b < wr.heap.size := Nat.lt_of_lt_of_le hb hB.out.size
      obtain ⟨r1, r2, r3, r4, r5, r6⟩ := Hok.out xs[k] (List.getElem_mem hlt)
      have hst := rightP_step x e xs k hlt
      have hi1 : (0 : Int) ≤ (k : Int) := by omega
      have hi2 : (k : Int) < (xs.length : Int) := by omega
      clear hv hcells
      generalize xs[k] = r at *
      have hs1 : IntKind.i64.wrap (r.a + r.n) = r.a + r.n := IntWalk.i64_in _ (by omega)
      have hs2 : IntKind.i64.wrap (x - r.a) = x - r.a := IntWalk.i64_in _ (by omega)
      have Hst := Lib.hid hst; clear hst
      by_cases hx : x < r.a + r.n
      · have Hx := Lib.hid hx
        by_cases hm : 0 ≤ x - r.a
        · have hsum : IntKind.i64.wrap (r.o + (x - r.a)) = r.o + (x - r.a) := IntWalk.i64_in _ (by omega)
          have hb1 : max 0 (x - r.a) = x - r.a := by omega
          have Hb1 := Lib.hid hb1; clear hb1
          go_wp2_with fail
          go_quiet (fail)
          go_wp2_with fail
          go_quiet (fail)
          go_wp2
          go_ret
          exact ⟨by rw [hL.out, Hst.out, if_pos Hx.out, Hb1.out]; rfl, below_drewN (below_drewN hB.out _) _⟩
        · have hb1 : max 0 (x - r.a) = 0 := by omega
          have Hb1 := Lib.hid hb1; clear hb1
          have hsum : IntKind.i64.wrap r.o = r.o := IntWalk.i64_in _ (by omega)
          go_wp2_with fail
          go_quiet (fail)
          go_wp2_with fail
          go_quiet (fail)
          go_wp2
          go_ret
          exact ⟨by rw [hL.out, Hst.out, if_pos Hx.out, Hb1.out, Int.add_zero]; rfl, below_drewN (below_drewN hB.out _) _⟩
      · have Hx := Lib.hid hx
        go_wp2_with fail
        go_quiet (fail)
        go_wp2
        go_roundw
        case rel => exact ⟨k + 1, by omega, by go_num, Lib.hid (by rw [hL.out, Hst.out, if_neg (Int.not_lt.2 Hx.out)]), Lib.hid (below_drewN hB.out _)⟩
        case measure => simp [intOf]; omega
    · have hL' := hL.out
      rw [List.drop_eq_nil_of_le (by omega)] at hL'
      have HL := Lib.hid hL'
      clear hL'
      go_wp2
      go_ret
      exact ⟨by rw [HL.out]; rfl, hB.out⟩

theorem kept_step (x : Int) (l : List Rn) (k : Nat) (h : k < l.length) : keptP x (l.drop k) = if l[k].a ≤ x ∧ x < l[k].a + l[k].n then some (l[k].o + x - l[k].a) else keptP x (l.drop (k + 1)) := by
  rw [List.drop_eq_getElem_cons h, keptP]

/-- two runs, one behind the other -/
theorem leftQ_eq (x : Int) : ∀ (xs : List Rn) (o : Int), xs.Pairwise upR → (∀ r ∈ xs, 0 ≤ r.n) → leftQ x o xs = leftP x o xs
  | [], _, _, _ => rfl
  | r :: l, o, h, hn => by
    rw [List.pairwise_cons] at h
    rw [leftQ, leftP]
    by_cases hx : x ≤ r.a
    · rw [if_pos hx, if_neg (by omega)]
      have key : ∀ l : List Rn, (∀ s ∈ l, x ≤ s.a) → leftQ x o l = o := by
        intro l
        induction l with
        | nil => intro _; rfl
        | cons s l ih =>
          intro hs
          rw [leftQ, if_neg (by have := hs s (by simp); omega)]
          exact ih fun t ht => hs t (by simp [ht])
      refine key l fun s hs => ?_
      have h1 := (h.1 s hs).1
      have h2 := hn r (by simp)
      omega
    · rw [if_neg hx, if_pos (by omega), leftQ_eq x l _ h.2 (fun s hs => hn s (by simp [hs])), Int.min_comm]

end Go.Proofs.Ytibmnkdeepmabaa
