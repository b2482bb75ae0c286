/- package node: bounds, formed, sum, Check, Measure at well formed nodes. -/
import Derived.Test.YtclmjnobacepjaaGreatJ03
import Derived.Test.YtclmjnobacepjaaGreatTAdd
namespace Go.Proofs.YtclmjnobacepjaaGreat
open Go.RowKit

theorem ndok_ht {G : Ar} (hG : ArOK G) {i h : Nat} {x : Nd} (hx : NdOK G i x) (hh : x.ht = h + 1) (hT : x.T.length ≤ 65536) : h ≤ 12 := by
  rcases hx with ⟨q, _⟩ | ⟨h', a, b, c, d, e⟩
  · omega
  · obtain rfl : h' = h := by omega
    have hk : ∀ T ∈ x.ks.map (txt G), 8 * 2 ^ h' ≤ T.length ∧ T.length ≤ 16 * 4 ^ h' := by
      intro T hT
      obtain ⟨k, hk, rfl⟩ := List.mem_map.1 hT
      exact kid_size hG (d k hk)
    have := (pow2_le _ _ _ hk).1
    rw [← e, List.length_map] at this
    have h2 : 2 * (8 * 2 ^ h') ≤ x.ks.length * (8 * 2 ^ h') := Nat.mul_le_mul_right _ b
    by_cases q : h' ≤ 12
    · exact q
    · have h3 : 2 ^ 13 ≤ 2 ^ h' := Nat.pow_le_pow_right (by omega) (by omega)
      omega
/-- a kid's measure fits the bounds -/
theorem kid_ms {G : Ar} (hG : ArOK G) {i h k : Nat} (hk : KidOK G i h k) (hT : (txt G k).length ≤ 65536) :
    8 * 2 ^ h ≤ (kdOf G k).m.b ∧ (kdOf G k).m.b ≤ min (16 * 4 ^ h) 65536 ∧ (kdOf G k).m.r ≤ (kdOf G k).m.b ∧ (kdOf G k).m.n ≤ (kdOf G k).m.r := by
  obtain ⟨a, b⟩ := kid_size hG hk
  exact ⟨a, by show (txt G k).length ≤ _; omega, meas_rb _, meas_nr _⟩
theorem flat_len_mem {l : List (List UInt8)} {T : List UInt8} (h : T ∈ l) : T.length ≤ l.flatten.length := by
  induction l with
  | nil => cases h
  | cons S l ih =>
    rw [List.flatten_cons, List.length_append]
    rcases List.mem_cons.1 h with rfl | h
    · omega
    · have := ih h; omega

def lstB (h : Nat) : Nat := 8 * 2 ^ h
def mstB (h : Nat) : Nat := min (16 * 4 ^ h) 65536
theorem lstB_succ (k : Nat) : lstB (k + 1) = lstB k * 2 := by unfold lstB; rw [Nat.pow_succ]; omega
theorem mstB_succ (k : Nat) : mstB (k + 1) = min (mstB k * 4) 65536 := by unfold mstB; rw [Nat.pow_succ]; omega
theorem lstB_le {k : Nat} (h : k ≤ 13) : lstB k ≤ 65536 := by
  unfold lstB
  have : 2 ^ k ≤ 2 ^ 13 := Nat.pow_le_pow_right (by omega) h
  omega
theorem mstB_le (k : Nat) : mstB k ≤ 65536 := Nat.min_le_right _ _

set_option maxHeartbeats 400000 in
set_option maxRecDepth 100000 in
theorem bounds_any (h : Nat) (hh : h ≤ 12) (w : World) : Calls Tryz.prog 109 #[.int .i64 h] w fun e w' => e = .returned (.tuple #[.int .i64 (lstB h), .int .i64 (mstB h)]) ∧ w' = w := by
  have HM := Lib.hid (fun k => mstB_le k)
  have HL := Lib.hid (fun k (q : k ≤ 13) => lstB_le q)
  go_enter Tryz.func109, Tryz.ntmps109
  go_wp2_with fail
  go_loop [2, 3, 5] (fun a b i => ∃ k : Nat, k ≤ h ∧ i = .int .i64 k ∧ a = .int .i64 (lstB k) ∧ b = .int .i64 (mstB k)) (fun _ _ i => h - (intOf i).toNat)
  case atStart => exact ⟨0, by omega, rfl, rfl, rfl⟩
  case round =>
    obtain ⟨k, hk, rfl, rfl, rfl⟩ := hrel
    have h1 := HL.out k (by omega)
    have h2 := HM.out k
    by_cases hlt : k < h
    · have h3 := HL.out (k + 1) (by omega)
      have h4 := HM.out (k + 1)
      have e1 := Lib.hid (lstB_succ k)
      have e2 := Lib.hid (mstB_succ k)
      have e3 := Lib.hid (show ((mstB (k + 1) : Nat) : Int) = if 65536 < (mstB k : Int) * 4 then 65536 else (mstB k : Int) * 4 by
        rw [e2.out]; split <;> omega)
      have hki : (k : Int) < (h : Int) := by omega
      by_cases hm : 65536 < (mstB k : Int) * 4
      · have e4 := Lib.hid (e3.out.trans (if_pos hm))
        generalize mstB k = m at *
        generalize lstB k = l at *
        go_wp2_with fail
        go_round
        case rel => exact ⟨k + 1, by omega, by go_num, by rw [e1.out]; go_num, by rw [e4.out]⟩
        case measure => simp [intOf]; omega
      · have e4 := Lib.hid (e3.out.trans (if_neg hm))
        have hm2 : (mstB k : Int) * 4 ≤ 65536 := by omega
        generalize mstB k = m at *
        generalize lstB k = l at *
        go_wp2_with fail
        go_round
        case rel => exact ⟨k + 1, by omega, by go_num, by rw [e1.out]; go_num, by rw [e4.out]⟩
        case measure => simp [intOf]; omega
    · obtain rfl : k = h := by omega
      have hm : ((mstB k : Nat) : Int) ≤ 65536 := by omega
      go_wp2
      go_ret2
      exact ⟨rfl, rfl⟩

/-- what is known of a node that is handed on -/
structure NodeIn (G : Ar) (i : Nat) (x : Nd) (kv : Value) (w : World) : Prop where
  ar : ArOK G
  nd : NdOK G i x
  hi : i ≤ 16384
  sl : Sl kdE w kv (x.ks.map (kdOf G))
  nil : x.ks = [] → kv = .slice none 0 0
  hT : x.T.length ≤ 65536
theorem NodeIn.ext {G : Ar} {i : Nat} {x : Nd} {kv : Value} {w w' : World} (h : NodeIn G i x kv w) (hb : Below w.heap.size w w') : NodeIn G i x kv w' := ⟨h.ar, h.nd, h.hi, h.sl.ext hb, h.nil, h.hT⟩

set_option maxHeartbeats 1600000 in
set_option maxRecDepth 100000 in
theorem formed_any (G : Ar) (i : Nat) (x : Nd) (kv : Value) (w : World) (h : NodeIn G i x kv w) :
    Calls Tryz.prog 91 #[ndV x kv] w fun e w' => e = .returned (.bool true) ∧ Below w.heap.size w w' := by
  rcases id h.nd with ⟨h0, hks, hT1, hT2⟩ | ⟨ht, hh, hk2, hk4, hkids, hT⟩
  · have hkv := h.nil hks
    subst hkv
    unfold ndV ownT
    rw [h0, if_pos rfl]
    obtain ⟨_, T, _⟩ := x
    simp only at hT1 hT2
    have d1 : (1 : Int) ≤ T.length := by omega
    have d2 : (T.length : Int) ≤ 16 := by omega
    clear h h0 hks hT1 hT2
    go_enter Tryz.func91, Tryz.ntmps91
    go_wp2
    go_ret
    exact ⟨rfl, bal (Below.refl _ _)⟩
  · have h12 := ndok_ht h.ar h.nd hh h.hT
    have hkl : (x.ks.map (kdOf G)).length = x.ks.length := List.length_map _
    have hms : ∀ k (hk : k < (x.ks.map (kdOf G)).length), lstB ht ≤ (x.ks.map (kdOf G))[k].m.b ∧ (x.ks.map (kdOf G))[k].m.b ≤ mstB ht ∧ (x.ks.map (kdOf G))[k].m.r ≤ (x.ks.map (kdOf G))[k].m.b ∧ (x.ks.map (kdOf G))[k].m.n ≤ (x.ks.map (kdOf G))[k].m.r ∧ (x.ks.map (kdOf G))[k].at_ < 16384 := by
      intro k hk
      rw [List.getElem_map]
      have hkk := hkids _ (List.getElem_mem (by omega : k < x.ks.length))
      have hT65 := h.hT
      rw [hT] at hT65
      obtain ⟨a, b, c, d⟩ := kid_ms h.ar hkk (Nat.le_trans (flat_len_mem (List.mem_map_of_mem (List.getElem_mem (by omega : k < x.ks.length)))) hT65)
      exact ⟨a, b, c, d, by have := hkk.1; have := h.hi; show x.ks[k] < 16384; omega⟩
    have hsl := h.sl
    obtain ⟨A, cap, hkv, hc1, hc2, -⟩ := id hsl
    subst hkv
    have hn2 : (2 : Int) ≤ ((x.ks.map (kdOf G)).length : Int) := by omega
    have hn4 : ((x.ks.map (kdOf G)).length : Int) ≤ 4 := by omega
    have hmb := mstB_le ht
    unfold ndV ownT
    rw [hh, if_neg (by omega)]
    have h12i : (ht : Int) ≤ 12 := by omega
    have hht : (((ht + 1 : Nat) : Int)) = (ht : Int) + 1 := by omega
    rw [hht]
    have he0 : ((ht : Int) + 1 == 0) = false := by rw [beq_eq_false_iff_ne]; omega
    have HS := Lib.hid hsl; have HM := Lib.hid hms
    have cB := Lib.hid (bounds_any ht h12)
    have HNE := Lib.hid hmb
    clear hsl hms h hT hkids hk2 hk4 hkl hh h12 hht hmb
    generalize x.ks.map (kdOf G) = L at *
    generalize lstB ht = lo at *
    generalize mstB ht = hi at *
    go_enter Tryz.func91, Tryz.ntmps91
    go_wp2_with (go_at_call 109; refine (cB.out _).mono ?_; rintro e w1 ⟨rfl, hw1⟩; obtain rfl := hw1)
    go_loopw [61] (fun i wr => ∃ k : Nat, k ≤ L.length ∧ i = .int .i64 k ∧ Hid (Below w.heap.size w wr)) (fun i _ => L.length - (intOf i).toNat)
    case atStart => exact ⟨0, by omega, rfl, Lib.hid (bal (Below.refl _ _))⟩
    case round =>
      obtain ⟨k, hk, rfl, hB⟩ := hrel
      have hsz := hB.out.size
      by_cases hlt : k < L.length
      · obtain ⟨b, off, cap', hv, hb, hcc⟩ := HS.out.kd hlt
        obtain ⟨rfl, rfl⟩ : A = some ⟨b, off, none⟩ ∧ cap = cap' := by injection hv with e1 e2 e3; exact ⟨e1, e3⟩
        obtain ⟨c0, c1, c2, c3⟩ := hcc wr hB.out
        obtain ⟨q1, q2, q3, q4, q5⟩ := HM.out k hlt
        have hki : (k : Int) < (L.length : Int) := by omega
        have p1 : (lo : Int) ≤ (L[k].m.b : Int) := by omega
        have p2 : (L[k].m.b : Int) ≤ (hi : Int) := by omega
        have p3 : (L[k].m.r : Int) ≤ (L[k].m.b : Int) := by omega
        have p4 : (L[k].m.n : Int) ≤ (L[k].m.r : Int) := by omega
        have cH := Lib.hid (hcheck_any L[k].at_ q5)
        clear hv hcc q1 q2 q3 q4 q5
        generalize L[k] = m at *
        obtain ⟨ma, mm⟩ := m
        obtain ⟨m1, m2, m3⟩ := mm
        simp only at *
        go_wp2_with (go_at_call 78; refine (cH.out _).mono ?_; rintro e w1 ⟨rfl, hw1⟩; obtain rfl := hw1)
        go_roundw
        case rel => exact ⟨k + 1, by omega, by go_num, Lib.hid (bal hB.out)⟩
        case measure => simp [intOf]; omega
      · go_wp2
        go_ret
        exact ⟨rfl, hB.out⟩

end Go.Proofs.YtclmjnobacepjaaGreat
