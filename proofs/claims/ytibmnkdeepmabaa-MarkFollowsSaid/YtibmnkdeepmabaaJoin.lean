/- slices.Grow, slices.Concat, delta.Join: what they return. Condition: deltas that pass Check, not more than 100000 pieces. -/
import Derived.Test.YtibmnkdeepmabaaNormal
import Derived.Lib.AppendZerosOnto
namespace Go.Proofs.Ytibmnkdeepmabaa
open Go.RowKit

/-- a slice that lies in a cell -/
structure SV where
  a : Option Addr
  n : Nat
  c : Nat
def SV.v (x : SV) : Value := .slice x.a x.n x.c
def svE : Enc SV := ⟨1, by decide, fun x => [x.v], fun _ => rfl, by intro x u h; simp at h; subst h; rfl⟩
/-- a slice of slices that reads as lists -/
def Sll (w : World) (v : Value) (L : List (List Pc)) : Prop := ∃ vs : List SV, Sl svE w v vs ∧ vs.length = L.length ∧ ∀ (i : Nat) (x : SV) (l : List Pc), vs[i]? = some x → L[i]? = some l → Sl pcE w x.v l
theorem Sll.ext {w w' : World} {v : Value} {L : List (List Pc)} (h : Sll w v L) (hb : Below w.heap.size w w') : Sll w' v L := by
  obtain ⟨vs, h1, h2, h3⟩ := h
  exact ⟨vs, h1.ext hb, h2, fun i x l hx hl => (h3 i x l hx hl).ext hb⟩
theorem Sll.at_ {w : World} {v : Value} {L : List (List Pc)} (h : Sll w v L) {k : Nat} (hk : k < L.length) :
    ∃ b off cap A c, v = .slice (some ⟨b, off, none⟩) L.length cap ∧ b < w.heap.size ∧ Sl pcE w (.slice A L[k].length c) L[k] ∧ ∀ w', Below w.heap.size w w' → w'.cell? ⟨b, off + k, none⟩ = some (.slice A L[k].length c) := by
  obtain ⟨vs, ⟨B, cap, rfl, h2, h3, h4⟩, h5, h6⟩ := h
  obtain ⟨b, off, rfl, hb, hc⟩ := h4 (by omega)
  have hx : vs[k]? = some vs[k] := List.getElem?_eq_getElem (by omega)
  have hs := h6 k _ _ hx (List.getElem?_eq_getElem hk)
  obtain ⟨A, c, e, -⟩ := id hs
  refine ⟨b, off, cap, A, c, by rw [h5], hb, e ▸ hs, fun w' hb' => ?_⟩
  have := hc k 0 _ vs[k].v hx rfl
  rw [show k * svE.sz + 0 = k from by simp [svE]] at this
  rw [← e, ← this]
  exact hb'.cell (p := ⟨b, off + k, none⟩) hb
theorem Sll.form {w : World} {v : Value} {L : List (List Pc)} (h : Sll w v L) : ∃ A cap, v = .slice A L.length cap ∧ L.length ≤ cap ∧ cap ≤ maxLen := by
  obtain ⟨vs, ⟨B, cap, rfl, h2, h3, h4⟩, h5, h6⟩ := h
  exact ⟨B, cap, by rw [h5], by omega, h3⟩

set_option maxHeartbeats 4000000 in
set_option maxRecDepth 100000 in
theorem grow_any (n : Nat) (w : World) (hn : n ≤ 100000) :
    Calls Try.prog 92 #[.slice none 0 0, .int .i64 n] w fun e w' => ∃ A c, e = .returned (.slice A 0 c) ∧ w'.ownsRow w.heap.size 53 3 (.slice A 0 c) 0 [] ∧ Below w.heap.size w w' := by
  by_cases h0 : n = 0
  · subst h0
    go_enter Try.func92, Try.ntmps92
    go_wp2
    go_ret
    exact ⟨_, _, rfl, World.ownsRow_nil _ _ _ _, Below.refl _ _⟩
  · obtain ⟨i0, hi, hz0, hz1, hz2⟩ := info_parts infoPiece
    have hold : (Builtin.firstCells i0.size 0 (.slice none 0 0)).run Try.prog w.drew = .ok #[] w.drew := run_firstCells_none w.drew i0.size 0 0 0
    have hrz : ∀ ty, (Builtin.append_ #[39, 3] ty #[.slice none 0 0, .int .i64 n]).run Try.prog w =
        .ok (.slice (some ⟨w.heap.size, 0, none⟩) n (grownCap w n 0 53)) (w.drew.alloc (.cells (Builtin.zeroCells (Value.agg #[.int .u8 0, .int .i64 0, .string ⟨#[]⟩]).cells n ++ Builtin.zeroCells (Value.agg #[.int .u8 0, .int .i64 0, .string ⟨#[]⟩]).cells (grownCap w n 0 53 - n)) 53)) := fun ty => by
      have h := Lib.run_append_grow_zeros w 39 3 ty 53 i0 _ .i64 .i64 Try.underlying39 Try.underlying3 hi hz0 none 0 0 [] (by simpa using hold) n (by omega) (by rw [hz1]; omega) (by omega) (by omega) (by rw [hz2]; omega)
        (by rw [hz2]; have := growslice_fits (need := 0 + n) (old := 0) (bytes := 32) (by omega) (by omega); exact this)
      simpa using h
    have hge := grownCap_ge w n 0 53
    have hle := grownCap_le_maxLen w n 0 53 (by unfold maxLen; omega)
    have hrow : (w.drew.alloc (.cells (Builtin.zeroCells (Value.agg #[.int .u8 0, .int .i64 0, .string ⟨#[]⟩]).cells n ++ Builtin.zeroCells (Value.agg #[.int .u8 0, .int .i64 0, .string ⟨#[]⟩]).cells (grownCap w n 0 53 - n)) 53)).ownsRow w.heap.size 53 3 (.slice (some ⟨w.heap.size, 0, none⟩) 0 (grownCap w n 0 53)) 0 [] :=
      World.ownsRow_made w.drew _ _ (Nat.le_refl _) hle (by
        have h3 : (Value.agg #[.int .u8 0, .int .i64 0, .string ⟨#[]⟩]).cells.size = 3 := rfl
        rw [Array.size_append, size_zeroCells, size_zeroCells, h3, ← Nat.add_mul]
        congr 1
        omega)
    have hbel : Below w.heap.size w (w.drew.alloc (.cells (Builtin.zeroCells (Value.agg #[.int .u8 0, .int .i64 0, .string ⟨#[]⟩]).cells n ++ Builtin.zeroCells (Value.agg #[.int .u8 0, .int .i64 0, .string ⟨#[]⟩]).cells (grownCap w n 0 53 - n)) 53)) := (Below.refl _ _).drew.alloc (Nat.le_refl _) _
    generalize grownCap w n 0 53 = G at *
    generalize w.drew.alloc (.cells (Builtin.zeroCells (Value.agg #[.int .u8 0, .int .i64 0, .string ⟨#[]⟩]).cells n ++ Builtin.zeroCells (Value.agg #[.int .u8 0, .int .i64 0, .string ⟨#[]⟩]).cells (G - n)) 53) = W1 at *
    have Hrow := Lib.hid hrow; have Hbel := Lib.hid hbel; have Hrz := Lib.hid hrz
    unfold maxLen at hle
    have hpos : 0 < n := by omega
    clear hrow hbel hold hrz h0 hi hz0 hz1 hz2
    go_enter Try.func92, Try.ntmps92
    go_wp2_with (at_builtin; refine Lib.wpList_append_run _ rfl _ _ _ _ rfl _ _ rfl rfl _ _ (Hrz.out _) ?_)
    go_ret
    exact ⟨_, _, rfl, Hrow.out, Hbel.out⟩

/-- the first k lists, one after another -/
def flatT (L : List (List Pc)) (k : Nat) : List Pc := (L.take k).flatten
theorem flatT_snoc (L : List (List Pc)) (k : Nat) (h : k < L.length) : flatT L (k + 1) = flatT L k ++ L[k] := by
  unfold flatT
  rw [List.take_succ_eq_append_getElem h, List.flatten_append]
  simp
theorem flatT_le (L : List (List Pc)) (k : Nat) : (flatT L k).length ≤ L.flatten.length := by
  have : L.flatten = (L.take k).flatten ++ (L.drop k).flatten := by rw [← List.flatten_append, List.take_append_drop]
  rw [this, List.length_append]
  unfold flatT
  omega
theorem flatT_all (L : List (List Pc)) (k : Nat) (h : ¬ k < L.length) : flatT L k = L.flatten := by
  unfold flatT
  rw [List.take_of_length_le (by omega)]
theorem t_le {p : Pc} {l : List Pc} (h : p ∈ l) : p.t.length ≤ (insS l).length := by
  induction l with
  | nil => cases h
  | cons q l ih =>
    unfold insS at ih ⊢
    rw [List.flatMap_cons, List.length_append]
    rcases List.mem_cons.1 h with rfl | h
    · omega
    · have := ih h; omega

set_option maxHeartbeats 4000000 in
set_option maxRecDepth 100000 in
theorem concat_any (v : Value) (L : List (List Pc)) (w : World) (h : Sll w v L) (hL : L.flatten.length ≤ 100000) :
    Calls Try.prog 86 #[v] w fun e w' => ∃ v', e = .returned v' ∧ w'.ownsRow w.heap.size 53 3 v' L.flatten.length (pcE.flat L.flatten) ∧ Below w.heap.size w w' := by
  obtain ⟨i0, hi, hz0, hz1, hz2⟩ := info_parts infoPiece
  obtain ⟨B, cap, rfl, h2, h3⟩ := h.form
  have H := Lib.hid h; clear h
  unfold maxLen at h3
  go_enter Try.func86, Try.ntmps86
  go_wp2_with fail
  go_loopw [3, 11] (fun z i wr => ∃ k : Nat, k ≤ L.length ∧ i = .int .i64 k ∧ z = .int .i64 (flatT L k).length ∧ w = wr) (fun _ i _ => L.length - (intOf i).toNat)
  case atStart => exact ⟨0, by omega, rfl, rfl, rfl⟩
  case round =>
    obtain ⟨k, hk, rfl, rfl, rfl⟩ := hrel
    have hle := flatT_le L k
    by_cases hlt : k < L.length
    · obtain ⟨b, off, cap', A, c, hv, hb, hS, hc⟩ := H.out.at_ hlt
      obtain ⟨rfl, rfl⟩ : B = some ⟨b, off, none⟩ ∧ cap = cap' := by injection hv with e1 e2 e3; exact ⟨e1, e3⟩
      have hc0 := hc _ (Below.refl _ _)
      have hsn := congrArg List.length (flatT_snoc L k hlt)
      rw [List.length_append] at hsn
      have hle2 := flatT_le L (k + 1)
      have Hsn := Lib.hid hsn
      clear hv hc hS
      generalize (flatT L k).length = a1 at *
      generalize L[k].length = a3 at *
      have hsum : a1 + a3 ≤ 100000 := by omega
      have hsum2 : (0 : Int) ≤ (a1 : Int) + (a3 : Int) := by omega
      clear hsn
      go_wp2
      go_roundw
      case rel => exact ⟨k + 1, by omega, by go_num, by rw [Hsn.out]; go_num, trivial⟩
      case measure => simp [intOf]; omega
    · have hkl := flatT_all L k hlt
      rw [hkl] at hle ⊢
      generalize hN : L.flatten.length = N at *
      have HN := Lib.hid hN
      clear hN hkl
      go_wp2_with fail
      refine (grow_any N _ hL).mono ?_
      rintro e w1 ⟨A1, c1, rfl, ho, hb⟩
      have hs1 := hb.size
      have HO := Lib.hid ho; have HB := Lib.hid hb
      clear ho hb hlt hk hle
      go_wp2_with fail
      go_loopw [6, 27] (fun vo i wz => ∃ (k : Nat) (A5 : Option Addr) (c5 : Nat), k ≤ L.length ∧ i = .int .i64 k ∧ vo = .slice A5 (flatT L k).length c5 ∧ Hid (wz.ownsRow w.heap.size 53 3 (.slice A5 (flatT L k).length c5) (flatT L k).length (pcE.flat (flatT L k))) ∧ Hid (Below w.heap.size w wz)) (fun _ i _ => L.length - (intOf i).toNat)
      case atStart => exact ⟨0, A1, c1, by omega, rfl, rfl, HO, HB⟩
      clear HO HB hs1
      case round =>
        obtain ⟨k, A5, c5, hk, rfl, rfl, hO, hB⟩ := hrel
        have hle := flatT_le L k
        rw [HN.out] at hle
        by_cases hlt : k < L.length
        · obtain ⟨b, off, cap', A, c, hv, hb, hS, hc⟩ := H.out.at_ hlt
          obtain ⟨rfl, rfl⟩ : B = some ⟨b, off, none⟩ ∧ cap = cap' := by injection hv with e1 e2 e3; exact ⟨e1, e3⟩
          have hc0 := hc _ hB.out
          have hbw : b < wr.heap.size := Nat.lt_of_lt_of_le hb hB.out.size
          have hS1 := Lib.hid (hS.ext hB.out)
          have Hsn := Lib.hid (flatT_snoc L k hlt)
          have hle2 := flatT_le L (k + 1)
          rw [flatT_snoc L k hlt, List.length_append, HN.out] at hle2
          clear hv hc hS
          go_wp2_with (
            at_builtin
            refine wpListB_append _ rfl (.tmp 31) (.tmp 32) 39 39 rfl w.heap.size hB.out.size 53 i0 _ 3 32 Try.underlying39 hi hz0 hz1 hz2 rfl (by decide) _ _ _ rfl hO.out _ _ _ rfl (hS1.out.src Try.underlying39) ?_ ?_ ?_
            · unfold maxLen; omega
            · omega
            intro A8 c8 w8 hown8 hg8 _ _
            have Ho8 := Lib.hid hown8; have Hb8 := Lib.hid (hB.out.grown hg8 hB.out.size (fun g hg => (hO.out.lt g hg).1))
            clear hown8 hg8)
          go_roundw
          case rel =>
            refine ⟨k + 1, A8, c8, by omega, by go_num, by rw [Hsn.out, List.length_append], Lib.hid ?_, Hb8⟩
            rw [Hsn.out, List.length_append, pcE.flat_append]
            exact Ho8.out
          case measure => simp [intOf]; omega
        · have hkl := flatT_all L k hlt
          have hO' := hO.out
          rw [hkl, HN.out] at hO'
          have HO := Lib.hid hO'
          have hkl2 : (flatT L k).length = N := by rw [hkl, HN.out]
          clear hO' hkl hle
          generalize (flatT L k).length = K at *
          subst hkl2
          go_wp2
          go_ret
          exact ⟨_, rfl, by rw [HN.out]; exact HO.out, hB.out⟩

def joinE (L : List (List Pc)) : Int := if errL (formS L.flatten) = 0 then 0 else 5
def joinS (L : List (List Pc)) : List Pc := if joinE L = 0 then formS L.flatten else []

set_option maxHeartbeats 4000000 in
set_option maxRecDepth 100000 in
theorem join_any (v : Value) (L : List (List Pc)) (w : World) (h : Sll w v L) (hE : ∀ l ∈ L, errL l = 0) (hL : L.flatten.length ≤ 100000) :
    Calls Try.prog 68 #[v] w fun e w' => ∃ v', e = .returned (.tuple #[v', .int .i64 (joinE L)]) ∧ w'.ownsRow w.heap.size 53 3 v' (joinS L).length (pcE.flat (joinS L)) ∧ Below w.heap.size w w' := by
  have hval : Val L.flatten := by
    intro p hp
    obtain ⟨l, hl, hpl⟩ := List.mem_flatten.1 hp
    exact ((errL_iff l).1 (hE l hl)).2.1 p hpl
  have hpre : FormPre L.flatten := by
    refine ⟨hL, fun p hp => ?_⟩
    obtain ⟨l, hl, hpl⟩ := List.mem_flatten.1 hp
    exact (formPre_of_lens (hE l hl)).2 p hpl
  have hwf : ∀ p, p ∈ formS L.flatten → p.wf := by
    have hb := formSt_bd (d := 1048576) L.flatten hpre.2
    have hf := (flushed_bd hb).2
    intro p hp
    have h1 := hf p hp
    have h2 := (formS_ok hval).1 p hp
    have h3 : p.t.length ≤ 9223372036854775807 := by
      have hle : p.t.length ≤ (insS (formS L.flatten)).length := t_le hp
      rw [ins_form hval] at hle
      have := insS_bd (l := L.flatten) (d := 1048576) (fun q hq => (hpre.2 q hq).2.2)
      omega
    rcases Pc.valid_cases h2 with ⟨x, y, z⟩ | ⟨x, y, z⟩ | ⟨x, y, z⟩ <;> exact ⟨by omega, by omega, by omega, by omega, h3⟩
  have hj : joinS L = if errL (formS L.flatten) = 0 then formS L.flatten else [] := by
    unfold joinS joinE
    by_cases h0 : errL (formS L.flatten) = 0 <;> simp [h0]
  have hCk : ∀ w x, Sl pcE w x (formS L.flatten) → Calls Try.prog 66 #[x] w fun e w' => e = .returned (.int .i64 (errL (formS L.flatten))) ∧ Below w.heap.size w w' := fun w x h => check_any x _ w h hwf
  have hFm : ∀ w x, Sl pcE w x L.flatten → Calls Try.prog 67 #[x] w fun e w' => ∃ v', e = .returned v' ∧ w'.ownsRow w.heap.size 53 3 v' (formS L.flatten).length (pcE.flat (formS L.flatten)) ∧ Below w.heap.size w w' := fun w x h => form_any x _ w h hpre
  have hCc : ∀ w, Sll w v L → Calls Try.prog 86 #[v] w fun e w' => ∃ v', e = .returned v' ∧ w'.ownsRow w.heap.size 53 3 v' L.flatten.length (pcE.flat L.flatten) ∧ Below w.heap.size w w' := fun w h => concat_any v L w h hL
  obtain ⟨B, cap, rfl, h2, h3⟩ := h.form
  have H := Lib.hid h; clear h
  have HE := Lib.hid hE
  have HCk := Lib.hid hCk; have HFm := Lib.hid hFm; have HCc := Lib.hid hCc; have Hj := Lib.hid hj
  unfold maxLen at h3
  clear hE hval hpre hwf hCk hFm hCc hj
  go_enter Try.func68, Try.ntmps68
  go_wp2_with fail
  go_loopw [10] (fun i wr => ∃ k : Nat, k ≤ L.length ∧ i = .int .i64 k ∧ Hid (Below w.heap.size w wr)) (fun i _ => L.length - (intOf i).toNat)
  case atStart => exact ⟨0, by omega, rfl, Lib.hid (Below.refl _ _)⟩
  case round =>
    obtain ⟨k, hk, rfl, hB⟩ := hrel
    by_cases hlt : k < L.length
    · obtain ⟨b, off, cap', A, c, hv, hb, hS, hc⟩ := H.out.at_ hlt
      obtain ⟨rfl, rfl⟩ : B = some ⟨b, off, none⟩ ∧ cap = cap' := by injection hv with e1 e2 e3; exact ⟨e1, e3⟩
      have hc0 := hc _ hB.out
      have hbw : b < wr.heap.size := Nat.lt_of_lt_of_le hb hB.out.size
      have hS1 := Lib.hid (hS.ext hB.out)
      have hz := HE.out L[k] (List.getElem_mem hlt)
      have hck := check_any _ _ wr hS1.out (wf_of_err hz)
      rw [show (lens L[k]).2.2 = 0 from hz] at hck
      have Hck := Lib.hid hck
      clear hv hc hS hz hck
      go_wp2_with fail
      refine (Hck.out).mono ?_
      rintro e w1 ⟨rfl, hb1⟩
      have hB1 := Lib.hid (hB.out.trans (hb1.mono hB.out.size))
      clear hb1
      go_wp2
      go_roundw
      case rel => exact ⟨k + 1, by omega, by go_num, hB1⟩
      case measure => simp [intOf]; omega
    · clear HE hk
      have hs0 := hB.out.size
      go_wp2_with fail
      refine (HCc.out _ (H.out.ext hB.out)).mono ?_
      rintro e w1 ⟨v1, rfl, ho, hb⟩
      have S1 := Lib.hid (Sl.of_own ho)
      have B1 := Lib.hid (hB.out.trans (hb.mono hs0))
      clear ho hb
      go_wp2_with fail
      refine (HFm.out _ _ S1.out).mono ?_
      rintro e w2 ⟨v2, rfl, ho, hb⟩
      have S2 := Lib.hid (Sl.of_own ho)
      have O2 := Lib.hid (own_base (B := w.heap.size) (own_zero ho) (fun g hg => Nat.le_trans B1.out.size (ho.lt g hg).1))
      have B2 := Lib.hid (B1.out.trans (hb.mono B1.out.size))
      clear ho hb S1
      by_cases h0 : errL (formS L.flatten) = 0
      · have hJ : joinE L = 0 := by simp [joinE, h0]
        have hJ2 := Hj.out
        rw [if_pos h0] at hJ2
        have HJ := Lib.hid hJ; have HJ2 := Lib.hid hJ2
        have hck := fun w x h => HCk.out w x h
        rw [h0] at hck
        have HC := Lib.hid hck
        clear hck hJ hJ2 h0 HCk Hj
        go_wp2_with fail
        refine (HC.out _ _ S2.out).mono ?_
        rintro e w3 ⟨rfl, hb⟩
        have O3 := Lib.hid (own_keepB O2.out (Fr.of_below (T := fun _ => False) hb) (fun _ _ h => h))
        have B3 := Lib.hid (B2.out.trans (hb.mono B2.out.size))
        clear hb
        go_wp2
        go_ret2
        exact ⟨_, by rw [HJ.out]; rfl, by rw [HJ2.out]; exact O3.out, B3.out⟩
      · have hJ : joinE L = 5 := by simp [joinE, h0]
        have hJ2 := Hj.out
        rw [if_neg h0] at hJ2
        have hb0 : (errL (formS L.flatten) != 0) = true := by simpa using h0
        have HJ := Lib.hid hJ; have HJ2 := Lib.hid hJ2
        clear hJ hJ2 h0 Hj
        generalize errL (formS L.flatten) = E at *
        go_wp2_with fail
        refine (HCk.out _ _ S2.out).mono ?_
        rintro e w3 ⟨rfl, hb⟩
        have B3 := Lib.hid (B2.out.trans (hb.mono B2.out.size))
        clear hb
        go_wp2
        go_ret2
        exact ⟨_, by rw [HJ.out]; rfl, by rw [HJ2.out]; exact World.ownsRow_nil _ _ _ _, B3.out⟩

end Go.Proofs.Ytibmnkdeepmabaa
