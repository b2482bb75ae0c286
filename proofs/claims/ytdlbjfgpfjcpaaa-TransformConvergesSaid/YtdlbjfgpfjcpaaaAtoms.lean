/- quartoref03.Large and Atoms: what they return. Condition: pieces whose texts have less than 2^47 bytes; valid pieces of moderate size. -/
import Derived.Test.YtdlbjfgpfjcpaaaRef4a
import Derived.Test.YtdlbjfgpfjcpaaaPlain
import Derived.IntWalk
namespace Go.Proofs.Ytdlbjfgpfjcpaaa
open Go.RowKit

def lgStep (n : Int) (p : Pc) : Int := n + 1 + p.t.length + max 0 (min p.n 6000)
/-- what Large counts up to -/
def lgR : Int → List Pc → Int
  | n, [] => n
  | n, p :: r => if n < 6000 then lgR (lgStep n p) r else n
def largeB (l : List Pc) : Bool := decide (6000 ≤ lgR 0 l)
theorem lgR_step {n : Int} {l : List Pc} {k : Nat} (h : k < l.length) (hn : n < 6000) : lgR n (l.drop k) = lgR (lgStep n l[k]) (l.drop (k + 1)) := by
  rw [List.drop_eq_getElem_cons h, lgR, if_pos hn]
theorem lgR_end {n : Int} (l : List Pc) (hn : ¬ n < 6000) : lgR n l = n := by
  cases l with
  | nil => rfl
  | cons p r => rw [lgR, if_neg hn]

set_option maxHeartbeats 2000000 in
set_option maxRecDepth 100000 in
theorem large_any (v : Value) (l : List Pc) (w : World) (h : Sl pcE w v l) (hd : ∀ p, p ∈ l → p.wf) (ht : ∀ p, p ∈ l → p.t.length ≤ 140737488355328) :
    Calls Try.prog 22 #[v] w fun e w' => e = .returned (.bool (largeB l)) ∧ Below w.heap.size w w' := by
  obtain ⟨A, cap, rfl, h2, h3, -⟩ := id h
  have H := Lib.hid h; clear h
  have Hd := Lib.hid hd; have Ht := Lib.hid ht
  clear hd ht
  unfold maxLen at h3
  go_enter Try.func22, Try.ntmps22
  go_wp2_with fail
  go_loopw [3, 4] (fun o i wr => ∃ (k : Nat) (n : Int), k ≤ l.length ∧ i = .int .i64 k ∧ o = .int .i64 n ∧ 0 ≤ n ∧ n ≤ 200000000000000 ∧ Hid (lgR 0 l = lgR n (l.drop k)) ∧ Hid (Below w.heap.size w wr)) (fun _ i _ => l.length - (intOf i).toNat)
  case atStart => exact ⟨0, 0, by omega, rfl, rfl, by omega, by omega, Lib.hid rfl, Lib.hid (Below.refl _ _)⟩
  case round =>
    obtain ⟨k, n, hk, rfl, rfl, hn0, hn1, hL, hB⟩ := hrel
    by_cases hlt : k < l.length
    · by_cases hn : n < 6000
      · obtain ⟨b, off, cap', hv, hb, hcells⟩ := H.out.pcB hlt
        obtain ⟨rfl, rfl⟩ : A = some ⟨b, off, none⟩ ∧ cap = cap' := by injection hv with e1 e2 e3; exact ⟨e1, e3⟩
        obtain ⟨c0, c1, c2⟩ := hcells _ hB.out
        have hbw : b < wr.heap.size := Nat.lt_of_lt_of_le hb hB.out.size
        obtain ⟨d1, d2, d3, d4, -⟩ := Hd.out l[k] (List.getElem_mem hlt)
        have d5 := Ht.out l[k] (List.getElem_mem hlt)
        have hst := lgR_step hlt hn
        have hi1 : (0 : Int) ≤ (k : Int) := by omega
        have hi2 : (k : Int) < (l.length : Int) := by omega
        clear hv hcells
        generalize l[k] = p at *
        have Hst := Lib.hid hst; clear hst
        have s1 : IntKind.i64.wrap (n + 1) = n + 1 := IntWalk.i64_in _ (by omega)
        have s2 : IntKind.i64.wrap (n + 1 + (p.t.length : Int)) = n + 1 + p.t.length := IntWalk.i64_in _ (by omega)
        by_cases q1 : p.n ≤ 6000
        · by_cases q2 : 0 < p.n
          · have e : lgStep n p = n + 1 + p.t.length + p.n := by unfold lgStep; omega
            have s3 : IntKind.i64.wrap (n + 1 + (p.t.length : Int) + p.n) = n + 1 + p.t.length + p.n := IntWalk.i64_in _ (by omega)
            have E := Lib.hid e; clear e
            go_wp2_with fail
            go_quiet (fail)
            go_wp2
            go_roundw
            case rel => exact ⟨k + 1, _, by omega, by go_num, rfl, by omega, by omega, Lib.hid (by rw [hL.out, Hst.out, E.out]), Lib.hid (below_drewN hB.out _)⟩
            case measure => simp [intOf]; omega
          · have e : lgStep n p = n + 1 + p.t.length := by unfold lgStep; omega
            have E := Lib.hid e; clear e
            go_wp2_with fail
            go_quiet (fail)
            go_wp2
            go_roundw
            case rel => exact ⟨k + 1, _, by omega, by go_num, rfl, by omega, by omega, Lib.hid (by rw [hL.out, Hst.out, E.out]), Lib.hid (below_drewN hB.out _)⟩
            case measure => simp [intOf]; omega
        · have e : lgStep n p = n + 1 + p.t.length + 6000 := by unfold lgStep; omega
          have s3 : IntKind.i64.wrap (n + 1 + (p.t.length : Int) + 6000) = n + 1 + p.t.length + 6000 := IntWalk.i64_in _ (by omega)
          have E := Lib.hid e; clear e
          go_wp2_with fail
          go_quiet (fail)
          go_wp2
          go_roundw
          case rel => exact ⟨k + 1, _, by omega, by go_num, rfl, by omega, by omega, Lib.hid (by rw [hL.out, Hst.out, E.out]), Lib.hid (below_drewN hB.out _)⟩
          case measure => simp [intOf]; omega
      · have hl : largeB l = true := by
          have := hL.out
          rw [lgR_end _ hn] at this
          simp only [largeB, this, decide_eq_true_eq]
          omega
        have HL := Lib.hid hl; clear hl
        go_wp2
        go_ret
        exact ⟨by rw [HL.out]; rfl, hB.out⟩
    · have hl : largeB l = decide (6000 ≤ n) := by
        have := hL.out
        rw [List.drop_eq_nil_of_le (by omega)] at this
        rw [largeB, this]
        rfl
      have HL := Lib.hid hl; clear hl
      by_cases hn : n < 6000
      · have e : decide (6000 ≤ n) = false := by simpa using hn
        have E := Lib.hid e; clear e
        go_wp2
        go_ret
        exact ⟨by rw [HL.out, E.out]; rfl, hB.out⟩
      · have e : decide (6000 ≤ n) = true := by simpa using hn
        have E := Lib.hid e; clear e
        go_wp2
        go_ret
        exact ⟨by rw [HL.out, E.out]; rfl, hB.out⟩

def inE : Enc Int := ⟨1, by decide, fun x => [.int .i64 x], fun _ => rfl, by intro x u h; simp at h; subst h; rfl⟩
theorem infoInt : (Try.prog.info? 3).map (fun i => (i.zero, i.size, i.bytes)) = some (some (.int .i64 0), 1, 8) := by kernel_rfl
theorem lets_snoc (t : List UInt8) (j : Nat) (h : j < t.length) : lets (t.take (j + 1)) = lets (t.take j) ++ [-1 - (t[j].toNat : Int)] := by
  rw [List.take_succ_eq_append_getElem h, lets_append]
  rfl
theorem rng_snoc (a : Int) (j : Nat) : rng a (j + 1) = rng a j ++ [a + j] := by
  rw [rng_add, rng_one]
/-- valid pieces of moderate size -/
def AtPre (l : List Pc) : Prop := Val l ∧ FormPre l
theorem AtPre.bd {l : List Pc} (h : AtPre l) (k : Nat) : 0 ≤ inL (l.take k) ∧ inL (l.take k) ≤ 1000000000000 ∧ ((atoms 0 (l.take k)).length : Int) ≤ 1000000000000 := by
  have hv : Val (l.take k) := fun p hp => h.1 p (List.mem_of_mem_take hp)
  have key : ∀ l : List Pc, (∀ p ∈ l, p.valid = true ∧ 0 ≤ p.n ∧ p.n ≤ 1048576 ∧ p.t.length ≤ 1048576) → 0 ≤ inL l ∧ inL l ≤ (l.length * 1048576 : Nat) ∧ 0 ≤ outL l ∧ outL l ≤ (l.length * 1048576 : Nat) := by
    intro l
    induction l with
    | nil => intro _; simp [inL, outL]
    | cons p l ih =>
      intro hh
      obtain ⟨v1, v2, v3, v4⟩ := hh p (by simp)
      obtain ⟨i1, i2, i3, i4⟩ := ih (fun q hq => hh q (by simp [hq]))
      have h5 := Val.out v1
      have h6 : p.out ≤ 1048576 := by
        rcases Pc.valid_cases v1 with ⟨x, y, z⟩ | ⟨x, y, z⟩ | ⟨x, y, z⟩ <;> simp [Pc.out, x] <;> omega
      simp only [inL, outL, List.length_cons, Nat.succ_mul]
      omega
  have h1 := key (l.take k) (fun p hp => ⟨h.1 p (List.mem_of_mem_take hp), h.2.2 p (List.mem_of_mem_take hp)⟩)
  have h2 : (l.take k).length ≤ 100000 := Nat.le_trans (List.length_take_le' k l) h.2.1
  rw [Val.atoms_len hv]
  omega

set_option maxHeartbeats 4000000 in
set_option maxRecDepth 100000 in
theorem atoms_any (v : Value) (l : List Pc) (w : World) (h : Sl pcE w v l) (hl : AtPre l) :
    Calls Try.prog 41 #[v] w fun e w' => ∃ v', e = .returned v' ∧ w'.ownsRow w.heap.size 3 1 v' (atoms 0 l).length (inE.flat (atoms 0 l)) ∧ Below w.heap.size w w' := by
  obtain ⟨j0, hj, jz0, jz1, jz2⟩ := info_parts infoInt
  obtain ⟨A, cap, hv, h2, h3, -⟩ := id h
  have Hh := Lib.hid h; clear h
  subst hv
  unfold maxLen at h3
  go_enter Try.func41, Try.ntmps41
  go_wp2_with fail
  go_loopw [3, 4, 5] (fun vo a i wr => ∃ (k : Nat) (R : List Int) (A5 : Option Addr) (c5 : Nat), k ≤ l.length ∧ i = .int .i64 k ∧ a = .int .i64 (inL (l.take k)) ∧ vo = .slice A5 R.length c5 ∧ Hid (atoms 0 (l.take k) = R) ∧ Hid (wr.ownsRow w.heap.size 3 1 (.slice A5 R.length c5) R.length (inE.flat R)) ∧ Hid (Below w.heap.size w wr)) (fun _ _ i _ => l.length - (intOf i).toNat)
  case atStart => exact ⟨0, [], none, 0, by omega, rfl, rfl, rfl, Lib.hid rfl, Lib.hid (World.ownsRow_nil _ _ _ _), Lib.hid (Below.refl _ _)⟩
  case round =>
    obtain ⟨k, R, A5, c5, hk, rfl, rfl, rfl, hR, hO, hB⟩ := hrel
    obtain ⟨b1, b2, b3⟩ := hl.bd k
    by_cases hlt : k < l.length
    · obtain ⟨b, off, cap', hv, hb, hcells⟩ := Hh.out.pcB hlt
      obtain ⟨rfl, rfl⟩ : A = some ⟨b, off, none⟩ ∧ cap = cap' := by injection hv with e1 e2 e3; exact ⟨e1, e3⟩
      have hval := hl.1 l[k] (List.getElem_mem hlt)
      obtain ⟨d1, d2, d3⟩ := hl.2.2 l[k] (List.getElem_mem hlt)
      have htk : l.take (k + 1) = l.take k ++ [l[k]] := List.take_succ_eq_append_getElem hlt
      have hsn : atoms 0 (l.take (k + 1)) = R ++ lets l[k].t ++ (if l[k].k = 1 then rng (inL (l.take k)) l[k].n.toNat else []) := by
        rw [htk, atoms_append, hR.out, Int.zero_add]
        simp [atoms]
      have s1 : inL (l.take (k + 1)) = inL (l.take k) + l[k].n := by rw [htk, inL_append]; simp [inL]
      have hRl : (R.length : Int) ≤ 1000000000000 := by rw [← hR.out]; exact b3
      have Hc := Lib.hid hcells
      clear hv htk b3 hcells
      generalize l[k] = p at *
      generalize inL (l.take k) = ia at *
      have Hsn := Lib.hid hsn; have S1 := Lib.hid s1; have Hval := Lib.hid hval
      clear hsn s1 hval
      have hbw := Nat.lt_of_lt_of_le hb hB.out.size
      go_wp2_with fail
      go_loopw [3, 6] (fun vo i wz => ∃ (j : Nat) (R2 : List Int) (A6 : Option Addr) (c6 : Nat), j ≤ p.t.length ∧ i = .int .i64 j ∧ vo = .slice A6 R2.length c6 ∧ R2.length = R.length + j ∧ Hid (R ++ lets (p.t.take j) = R2) ∧ Hid (wz.ownsRow w.heap.size 3 1 (.slice A6 R2.length c6) R2.length (inE.flat R2)) ∧ Hid (Below w.heap.size w wz)) (fun _ i _ => p.t.length - (intOf i).toNat)
      case atStart => exact ⟨0, R, A5, c5, by omega, rfl, rfl, by omega, Lib.hid (by simp [lets_nil]), hO, hB⟩
      clear hO hB hbw hR
      case round =>
        obtain ⟨j, R2, A6, c6, hj6, rfl, rfl, hlen2, hR2, hO, hB⟩ := hrel
        obtain ⟨c0, c1, c2⟩ := Hc.out _ hB.out
        have hbw := Nat.lt_of_lt_of_le hb hB.out.size
        have hRl2 : (R2.length : Int) ≤ 1000001048576 := by omega
        have Hlen2 := Lib.hid hlen2
        clear hlen2
        by_cases hjl : j < p.t.length
        · have hsn2 := lets_snoc p.t j hjl
          have hget : (⟨p.t.toArray⟩ : ByteArray)[j]'(by simpa [ByteArray.size] using hjl) = p.t[j] := rfl
          have hcb := p.t[j].toNat_lt
          have Hsn2 := Lib.hid hsn2
          clear hsn2
          generalize p.t[j] = c at *
          have hx : IntKind.i64.wrap (-1 - (c.toNat : Int)) = -1 - (c.toNat : Int) := IntWalk.i64_in _ (by omega)
          go_wp2_with (
            at_builtin
            refine wpListB_append _ rfl (.tmp 24) (.tmp 34) 50 50 rfl w.heap.size (by have := hB.out.size; simp; omega) 3 j0 _ 1 8 Try.underlying50 hj jz0 jz1 jz2 rfl (by decide) _ _ _ rfl (hO.out.alloc _) _ 1 _ rfl (src_one inE Try.underlying50 (off := 0) (-1 - (c.toNat : Int)) _ ?_) ?_ ?_ ?_
            · exact new_cells _ _ _
            · unfold maxLen; omega
            · omega
            intro A8 c8 w8 hown8 hg8 _ _
            have hb8 := (hB.out.alloc hB.out.size _).grown hg8 (by have := hB.out.size; simp; omega) (fun g hg => (hO.out.lt g hg).1)
            have Ho8 := Lib.hid hown8; have Hb8 := Lib.hid hb8
            clear hown8 hg8 hb8)
          go_roundw
          case rel =>
            refine ⟨j + 1, R2 ++ [-1 - (c.toNat : Int)], A8, c8, by omega, by go_num, by simp, by have := Hlen2.out; simp; omega, Lib.hid ?_, Lib.hid ?_, Hb8⟩
            · rw [Hsn2.out, ← List.append_assoc, hR2.out]
            · rw [List.length_append, inE.flat_append]; exact Ho8.out
          case measure => simp [intOf]; omega
        · have hR3 := hR2.out
          rw [List.take_of_length_le (by omega)] at hR3
          have HR3 := Lib.hid hR3
          clear hR3 hR2 hj6
          go_wp2_with fail
          go_loopw [3, 7] (fun vo i wz => ∃ (m : Nat) (R4 : List Int) (A7 : Option Addr) (c7 : Nat), (p.k = 1 → (m : Int) ≤ p.n) ∧ (p.k ≠ 1 → m = 0) ∧ i = .int .i64 m ∧ vo = .slice A7 R4.length c7 ∧ (R4.length : Int) ≤ 1000001048576 + m ∧ Hid (R2 ++ rng ia m = R4) ∧ Hid (wz.ownsRow w.heap.size 3 1 (.slice A7 R4.length c7) R4.length (inE.flat R4)) ∧ Hid (Below w.heap.size w wz)) (fun _ i _ => p.n.toNat - (intOf i).toNat)
          case atStart => exact ⟨0, R2, A6, c6, by intro _; exact d1, by intro _; rfl, rfl, rfl, by omega, Lib.hid (by simp [rng_zero]), hO, hB⟩
          clear hO hB hbw c0 c1 c2 hjl hRl2 Hlen2
          case round =>
            obtain ⟨m, R4, A7, c7, hm1, hm2, rfl, rfl, hlen4, hR4, hO, hB⟩ := hrel
            obtain ⟨c0, c1, c2⟩ := Hc.out _ hB.out
            have hbw := Nat.lt_of_lt_of_le hb hB.out.size
            have hmn : (m : Int) ≤ 1048576 := by
              by_cases hk1 : p.k = 1
              · have := hm1 hk1; omega
              · have := hm2 hk1; omega
            have Hm1 := Lib.hid hm1; have Hm2 := Lib.hid hm2
            clear hm1 hm2
            by_cases hk1 : p.k = 1
            · have e1 : (p.k == 1) = true := by simp [hk1]
              have Hk := Lib.hid hk1
              clear hk1
              by_cases hml : (m : Int) < p.n
              · have hx : IntKind.i64.wrap (ia + (m : Int)) = ia + m := IntWalk.i64_in _ (by omega)
                go_wp2_with (
                  at_builtin
                  refine wpListB_append _ rfl (.tmp 53) (.tmp 57) 50 50 rfl w.heap.size (by have := hB.out.size; simp; omega) 3 j0 _ 1 8 Try.underlying50 hj jz0 jz1 jz2 rfl (by decide) _ _ _ rfl (hO.out.alloc _) _ 1 _ rfl (src_one inE Try.underlying50 (off := 0) (ia + (m : Int)) _ ?_) ?_ ?_ ?_
                  · exact new_cells _ _ _
                  · unfold maxLen; omega
                  · omega
                  intro A8 c8 w8 hown8 hg8 _ _
                  have hb8 := (hB.out.alloc hB.out.size _).grown hg8 (by have := hB.out.size; simp; omega) (fun g hg => (hO.out.lt g hg).1)
                  have Ho8 := Lib.hid hown8; have Hb8 := Lib.hid hb8
                  clear hown8 hg8 hb8)
                go_roundw
                case rel =>
                  refine ⟨m + 1, R4 ++ [ia + (m : Int)], A8, c8, by intro _; omega, by intro h; exact absurd Hk.out h, by go_num, by simp, by simp; omega, Lib.hid ?_, Lib.hid ?_, Hb8⟩
                  · rw [rng_snoc, ← List.append_assoc, hR4.out]
                  · rw [List.length_append, inE.flat_append]; exact Ho8.out
                case measure => simp [intOf]; omega
              · have hfin : atoms 0 (l.take (k + 1)) = R4 := by
                  have := Hm1.out Hk.out
                  rw [Hsn.out, if_pos Hk.out, HR3.out, ← hR4.out, show p.n.toNat = m by omega]
                have Hfin := Lib.hid hfin
                clear hfin
                go_wp2
                go_roundw
                case rel => exact ⟨k + 1, R4, A7, c7, by omega, by go_num, by rw [S1.out], rfl, Hfin, hO, hB⟩
                case measure => simp [intOf]; omega
            · have e1 : (p.k == 1) = false := by simp [hk1]
              have hfin : atoms 0 (l.take (k + 1)) = R4 := by
                have hm0 := Hm2.out hk1
                rw [Hsn.out, if_neg hk1, HR3.out, ← hR4.out, hm0]
                simp [rng_zero]
              have Hfin := Lib.hid hfin
              clear hfin hk1
              by_cases hml : (m : Int) < p.n
              all_goals
                go_wp2
                go_roundw
                case rel => exact ⟨k + 1, R4, A7, c7, by omega, by go_num, by rw [S1.out], rfl, Hfin, hO, hB⟩
                case measure => simp [intOf]; omega
    · have hkl : l.take k = l := List.take_of_length_le (by omega)
      have hR' := hR.out
      rw [hkl] at hR'
      have HR' := Lib.hid hR'
      clear hkl hR'
      go_wp2
      go_ret
      exact ⟨_, rfl, by rw [HR'.out]; exact hO.out, hB.out⟩

end Go.Proofs.Ytdlbjfgpfjcpaaa
