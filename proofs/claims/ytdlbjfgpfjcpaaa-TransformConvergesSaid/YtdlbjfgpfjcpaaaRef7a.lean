/- quartoref07.Keeps, typed, Texts: what they return. Condition: valid pieces of moderate size. -/
import Derived.Test.YtdlbjfgpfjcpaaaOf
import Derived.Test.YtdlbjfgpfjcpaaaPlainT1
import Derived.Test.YtdlbjfgpfjcpaaaRef4a
import Derived.Deep.OwnRows
namespace Go.Proofs.Ytdlbjfgpfjcpaaa
open Go.RowKit

def boE : Enc Bool := ⟨1, by decide, fun x => [.bool x], fun _ => rfl, by intro x u h; simp at h; subst h; rfl⟩
def stE : Enc (List UInt8) := ⟨1, by decide, fun x => [.string ⟨x.toArray⟩], fun _ => rfl, by intro x u h; simp at h; subst h; rfl⟩
theorem infoBool : (Try.prog.info? 4).map (fun i => (i.zero, i.size, i.bytes)) = some (some (.bool false), 1, 1) := by kernel_rfl
theorem infoStr7 : (Try.prog.info? 9).map (fun i => (i.zero, i.size, i.bytes)) = some (some (.string ⟨#[]⟩), 1, 16) := by kernel_rfl
theorem Sl.bool7 {w : World} {v : Value} {l : List Bool} (h : Sl boE w v l) {k : Nat} (hk : k < l.length) :
    ∃ b off cap, v = .slice (some ⟨b, off, none⟩) l.length cap ∧ b < w.heap.size ∧ ∀ w', Below w.heap.size w w' → w'.cell? ⟨b, off + k, none⟩ = some (.bool l[k]) := by
  obtain ⟨A, cap, rfl, h2, h3, h4⟩ := h
  obtain ⟨b, off, rfl, hb, hc⟩ := h4 (by omega)
  have hx : l[k]? = some l[k] := List.getElem?_eq_getElem hk
  refine ⟨b, off, cap, rfl, hb, fun w' hb' => ?_⟩
  have := hc k 0 _ _ hx rfl
  rw [show k * boE.sz + 0 = k by simp [boE]] at this
  exact (hb'.cell (p := ⟨b, _, none⟩) hb).trans this
theorem Sl.str7 {w : World} {v : Value} {l : List (List UInt8)} (h : Sl stE w v l) {k : Nat} (hk : k < l.length) :
    ∃ b off cap, v = .slice (some ⟨b, off, none⟩) l.length cap ∧ b < w.heap.size ∧ ∀ w', Below w.heap.size w w' → w'.cell? ⟨b, off + k, none⟩ = some (.string ⟨l[k].toArray⟩) := by
  obtain ⟨A, cap, rfl, h2, h3, h4⟩ := h
  obtain ⟨b, off, rfl, hb, hc⟩ := h4 (by omega)
  have hx : l[k]? = some l[k] := List.getElem?_eq_getElem hk
  refine ⟨b, off, cap, rfl, hb, fun w' hb' => ?_⟩
  have := hc k 0 _ _ hx rfl
  rw [show k * stE.sz + 0 = k by simp [stE]] at this
  exact (hb'.cell (p := ⟨b, _, none⟩) hb).trans this

theorem keepsL_append (l m : List Pc) : keepsL (l ++ m) = keepsL l ++ keepsL m := by
  induction l with
  | nil => rfl
  | cons p r ih => rw [List.cons_append, keepsL, keepsL, ih, List.append_assoc]
theorem inL_take {l : List Pc} (h : Val l) (k : Nat) : inL (l.take k) ≤ inL l := by
  have := inL_append (l.take k) (l.drop k)
  rw [List.take_append_drop] at this
  have h2 := Val.inL (fun p hp => h p (List.mem_of_mem_drop hp) : Val (l.drop k))
  omega

set_option maxHeartbeats 4000000 in
set_option maxRecDepth 100000 in
theorem keeps7_any (v : Value) (l : List Pc) (w : World) (h : Sl pcE w v l) (hv : Val l) (hl : inL l ≤ 1048576) :
    Calls Try.prog 91 #[v] w fun e w' => ∃ v', e = .returned v' ∧ w'.ownsRow w.heap.size 4 1 v' (keepsL l).length (boE.flat (keepsL l)) ∧ Below w.heap.size w w' := by
  obtain ⟨j0, hj, jz0, jz1, jz2⟩ := info_parts infoBool
  obtain ⟨A, cap, hvv, h2, h3, -⟩ := id h
  have Hh := Lib.hid h; clear h
  subst hvv
  unfold maxLen at h3
  go_enter Try.func91, Try.ntmps91
  go_wp2_with fail
  go_loopw [3, 4] (fun vo i wr => ∃ (k : Nat) (R : List Bool) (A5 : Option Addr) (c5 : Nat), k ≤ l.length ∧ i = .int .i64 k ∧ vo = .slice A5 R.length c5 ∧ (R.length : Int) = inL (l.take k) ∧ Hid (keepsL (l.take k) = R) ∧ Hid (wr.ownsRow w.heap.size 4 1 (.slice A5 R.length c5) R.length (boE.flat R)) ∧ Hid (Below w.heap.size w wr)) (fun _ i _ => l.length - (intOf i).toNat)
  case atStart => exact ⟨0, [], none, 0, by omega, rfl, rfl, rfl, Lib.hid rfl, Lib.hid (World.ownsRow_nil _ _ _ _), Lib.hid (Below.refl _ _)⟩
  case round =>
    obtain ⟨k, R, A5, c5, hk, rfl, rfl, hRl, hR, hO, hB⟩ := hrel
    have hRi := inL_take hv k
    by_cases hlt : k < l.length
    · obtain ⟨b, off, cap', hv', hb, hcells⟩ := Hh.out.pcB hlt
      obtain ⟨rfl, rfl⟩ : A = some ⟨b, off, none⟩ ∧ cap = cap' := by injection hv' with e1 e2 e3; exact ⟨e1, e3⟩
      have hval := hv l[k] (List.getElem_mem hlt)
      have hn0 := Val.n hval
      have htk : l.take (k + 1) = l.take k ++ [l[k]] := List.take_succ_eq_append_getElem hlt
      have hRi2 := inL_take hv (k + 1)
      have s1 : inL (l.take (k + 1)) = inL (l.take k) + l[k].n := by rw [htk, inL_append]; simp [inL]
      have hsn : keepsL (l.take (k + 1)) = R ++ List.replicate l[k].n.toNat (l[k].k == 1) := by
        rw [htk, keepsL_append, hR.out]
        simp [keepsL]
      have Hc := Lib.hid hcells
      clear hv' htk hcells hval
      generalize l[k] = p at *
      generalize inL (l.take k) = ia at *
      generalize hib : inL (l.take (k + 1)) = ib at *
      have HIB := Lib.hid hib
      clear hib
      have Hsn := Lib.hid hsn; have S1 := Lib.hid s1; have HRl := Lib.hid hRl
      have hp1 : (R.length : Int) + p.n ≤ 1048576 := by omega
      clear hsn s1 hRl hRi hRi2
      have hbw := Nat.lt_of_lt_of_le hb hB.out.size
      go_wp2_with fail
      go_loopw [3, 5] (fun vo i wz => ∃ (j : Nat) (R2 : List Bool) (A6 : Option Addr) (c6 : Nat), (j : Int) ≤ p.n ∧ i = .int .i64 j ∧ vo = .slice A6 R2.length c6 ∧ R2.length = R.length + j ∧ Hid (R ++ List.replicate j (p.k == 1) = R2) ∧ Hid (wz.ownsRow w.heap.size 4 1 (.slice A6 R2.length c6) R2.length (boE.flat R2)) ∧ Hid (Below w.heap.size w wz)) (fun _ i _ => p.n.toNat - (intOf i).toNat)
      case atStart => exact ⟨0, R, A5, c5, hn0, rfl, rfl, by omega, Lib.hid (by simp), hO, hB⟩
      clear hO hB hbw hR
      case round =>
        obtain ⟨j, R2, A6, c6, hj6, rfl, rfl, hlen2, hR2, hO, hB⟩ := hrel
        obtain ⟨c0, c1, c2⟩ := Hc.out _ hB.out
        have hbw := Nat.lt_of_lt_of_le hb hB.out.size
        have hRl2 : (R2.length : Int) ≤ 1048576 := by omega
        have Hlen2 := Lib.hid hlen2
        clear hlen2
        by_cases hjl : (j : Int) < p.n
        · have hRl3 : (R2.length : Int) < 1048576 := by have := Hlen2.out; omega
          go_wp2_with (at_builtin; refine Hid.out ?_)
          refine Lib.hid ?_
          refine wpListB_append _ rfl (.tmp 21) (.tmp 28) 67 67 rfl w.heap.size (by have := hB.out.size; simp; omega) 4 j0 _ 1 1 Try.underlying67 hj jz0 jz1 jz2 rfl (by decide) _ _ _ rfl (hO.out.alloc _) _ 1 _ rfl (src_one boE Try.underlying67 (off := 0) (p.k == 1) _ (new_cells _ _ _)) (by unfold maxLen; omega) (by omega) ?_
          intro A8 c8 w8 hown8 hg8 _ _
          have hb8 := (hB.out.alloc hB.out.size _).grown hg8 (by have := hB.out.size; simp; omega) (fun g hg => (hO.out.lt g hg).1)
          have Ho8 := Lib.hid hown8; have Hb8 := Lib.hid hb8
          clear hown8 hg8 hb8
          go_wp2_with fail
          go_roundw
          case rel =>
            refine ⟨j + 1, R2 ++ [p.k == 1], A8, c8, by omega, by go_num, by simp, by have := Hlen2.out; simp; omega, Lib.hid ?_, Lib.hid ?_, Hb8⟩
            · rw [← List.replicate_append_replicate, ← List.append_assoc, hR2.out]; rfl
            · rw [List.length_append, boE.flat_append]; exact Ho8.out
          case measure => simp [intOf]; omega
        · have hfin : keepsL (l.take (k + 1)) = R2 := by
            rw [Hsn.out, ← hR2.out, show p.n.toNat = j by omega]
          have hfl : (R2.length : Int) = ib := by have := Hlen2.out; have := S1.out; have := HRl.out; omega
          have Hfin := Lib.hid hfin; have Hfl := Lib.hid hfl
          clear hfin hfl
          go_wp2
          go_roundw
          case rel => exact ⟨k + 1, R2, A6, c6, by omega, by go_num, rfl, by rw [HIB.out]; exact Hfl.out, Hfin, hO, hB⟩
          case measure => simp [intOf]; omega
    · have hkl : l.take k = l := List.take_of_length_le (by omega)
      have hR' := hR.out
      rw [hkl] at hR'
      have HR' := Lib.hid hR'
      clear hkl hR'
      go_wp2
      go_ret
      exact ⟨_, rfl, by rw [HR'.out]; exact hO.out, hB.out⟩

set_option maxHeartbeats 2000000 in
set_option maxRecDepth 100000 in
theorem typed7_any (s : List UInt8) (R : List Int) (A : Option Addr) (c B : Nat) (w : World) (ho : w.ownsRow B 3 1 (.slice A R.length c) R.length (inE.flat R)) (hB : B ≤ w.heap.size) (hl : R.length + s.length ≤ 1000000) :
    Calls Try.prog 114 #[.slice A R.length c, .string ⟨s.toArray⟩] w fun e w' => ∃ A' c', e = .returned (.slice A' (R ++ lets s).length c') ∧ w'.ownsRow B 3 1 (.slice A' (R ++ lets s).length c') (R ++ lets s).length (inE.flat (R ++ lets s)) ∧ Below B w w' := by
  obtain ⟨j0, hj, jz0, jz1, jz2⟩ := info_parts infoInt
  have HO := Lib.hid ho
  clear ho
  go_enter Try.func114, Try.ntmps114
  go_wp2_with fail
  go_loopw [0, 5] (fun vo i wz => ∃ (j : Nat) (R2 : List Int) (A6 : Option Addr) (c6 : Nat), j ≤ s.length ∧ i = .int .i64 j ∧ vo = .slice A6 R2.length c6 ∧ R2.length = R.length + j ∧ Hid (R ++ lets (s.take j) = R2) ∧ Hid (wz.ownsRow B 3 1 (.slice A6 R2.length c6) R2.length (inE.flat R2)) ∧ Hid (Below B w wz) ∧ B ≤ wz.heap.size) (fun _ i _ => s.length - (intOf i).toNat)
  case atStart => exact ⟨0, R, A, c, by omega, rfl, rfl, by omega, Lib.hid (by simp [lets_nil]), HO, Lib.hid (Below.refl _ _), hB⟩
  case round =>
    obtain ⟨j, R2, A6, c6, hj6, rfl, rfl, hlen2, hR2, hO, hBl, hBs⟩ := hrel
    have hRl2 : (R2.length : Int) ≤ 1000000 := by omega
    have Hlen2 := Lib.hid hlen2
    by_cases hjl : j < s.length
    · have hRl3 : R2.length < 1000000 := by omega
      clear hlen2
      have hsn2 := lets_snoc s j hjl
      have hget : (⟨s.toArray⟩ : ByteArray)[j]'(by simpa [ByteArray.size] using hjl) = s[j] := rfl
      have hcb := s[j].toNat_lt
      have Hsn2 := Lib.hid hsn2
      clear hsn2
      generalize s[j] = y at *
      have hx : IntKind.i64.wrap (-1 - (y.toNat : Int)) = -1 - (y.toNat : Int) := IntWalk.i64_in _ (by omega)
      go_wp2_with (at_builtin; refine Hid.out ?_)
      refine Lib.hid ?_
      refine wpListB_append _ rfl (.tmp 12) (.tmp 18) 50 50 rfl B (by simp; omega) 3 j0 _ 1 8 Try.underlying50 hj jz0 jz1 jz2 rfl (by decide) _ _ _ rfl (hO.out.alloc _) _ 1 _ rfl (src_one inE Try.underlying50 (off := 0) (-1 - (y.toNat : Int)) _ (new_cells _ _ _)) (by unfold maxLen; omega) (by omega) ?_
      intro A8 c8 w8 hown8 hg8 _ _
      have hb8 := (hBl.out.alloc hBs _).grown hg8 (by simp; omega) (fun g hg => (hO.out.lt g hg).1)
      have hs8 : B ≤ w8.heap.size := by have := hg8.size; simp at this; omega
      have Ho8 := Lib.hid hown8; have Hb8 := Lib.hid hb8
      clear hown8 hg8 hb8
      go_wp2_with fail
      go_roundw
      case rel =>
        refine ⟨j + 1, R2 ++ [-1 - (y.toNat : Int)], A8, c8, by omega, by go_num, by simp, by have := Hlen2.out; simp; omega, Lib.hid ?_, Lib.hid ?_, Hb8, hs8⟩
        · rw [Hsn2.out, ← List.append_assoc, hR2.out]
        · rw [List.length_append, inE.flat_append]; exact Ho8.out
      case measure => simp [intOf]; omega
    · have hfin := hR2.out
      rw [List.take_of_length_le (by omega)] at hfin
      have Hfin := Lib.hid hfin
      clear hfin hlen2
      go_wp2
      go_ret
      exact ⟨A6, c6, by rw [Hfin.out]; rfl, by rw [Hfin.out]; exact hO.out, hBl.out⟩

end Go.Proofs.Ytdlbjfgpfjcpaaa
