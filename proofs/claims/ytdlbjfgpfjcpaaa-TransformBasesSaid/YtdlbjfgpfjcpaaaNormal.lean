/- slices.Equal over pieces, delta.Normal, delta.Equivalent: what they return. Condition: the pieces read as values of their type. -/
import Derived.Test.YtdlbjfgpfjcpaaaPlain
namespace Go.Proofs.Ytdlbjfgpfjcpaaa
open Go.RowKit

set_option maxHeartbeats 1000000 in
theorem equal_any (v u : Value) (l m : List Pc) (w : World) (h : Sl pcE w v l) (k : Sl pcE w u m) :
    Calls Try.prog 77 #[v, u] w fun e w' => e = .returned (.bool (sameB l m)) ∧ Below w.heap.size w w' := by
  obtain ⟨A, cap, hv, h2, h3, -⟩ := id h
  obtain ⟨A', cap', hv', h2', h3', -⟩ := id k
  have Hh := Lib.hid h; clear h
  have Hk := Lib.hid k; clear k
  subst hv
  subst hv'
  unfold maxLen at h3 h3'
  by_cases hlen : l.length = m.length
  · have hl1 : ((l.length : Int) != (m.length : Int)) = false := by simp [hlen]
    have Hlen := Lib.hid hlen
    have hl2 : l.length ≤ m.length := by omega
    have hl3 : m.length ≤ l.length := by omega
    clear hlen
    go_enter Try.func77, Try.ntmps77
    go_wp2_with fail
    go_loopw [13] (fun i w1 => ∃ k : Nat, k ≤ l.length ∧ i = .int .i64 k ∧ Hid (sameB l m = sameB (l.drop k) (m.drop k)) ∧ Below w.heap.size w w1) (fun i _ => l.length - (intOf i).toNat)
    case atStart => exact ⟨0, by omega, rfl, rfl, Below.refl _ _⟩
    case round =>
      obtain ⟨k, hk, rfl, hS, hbel⟩ := hrel
      by_cases hlt : k < l.length
      · have hlt2 : k < m.length := by omega
        have hdr := sameB_drop l m k hlt hlt2
        obtain ⟨b, off, cap1, hv, hb, c0, c1, c2⟩ := (Hh.out.ext hbel).pc hlt
        obtain ⟨rfl, rfl⟩ : A = some ⟨b, off, none⟩ ∧ cap = cap1 := by injection hv with e1 e2 e3; exact ⟨e1, e3⟩
        obtain ⟨b', off', cap2, hv', hb', d0, d1, d2⟩ := (Hk.out.ext hbel).pc hlt2
        obtain ⟨rfl, rfl⟩ : A' = some ⟨b', off', none⟩ ∧ cap' = cap2 := by injection hv' with e1 e2 e3; exact ⟨e1, e3⟩
        clear hv hv'
        generalize l[k] = p at *
        generalize m[k] = q at *
        have Hdr := Lib.hid hdr; clear hdr
        have hi1 : (0 : Int) ≤ (k : Int) := by omega
        have hi2 : (k : Int) < (l.length : Int) := by omega
        have hi3 : (k : Int) < (m.length : Int) := by omega
        by_cases h1 : p.k = q.k
        · by_cases h2 : p.n = q.n
          · by_cases h3 : p.t = q.t
            · have hpq : p.eqb q = true := by simp [Pc.eqb, h1, h2, h3]
              have Hpq := Lib.hid hpq; clear hpq
              go_wp2
              go_quiet (fail)
              go_wp2
              go_roundw
              case rel => exact ⟨k + 1, by omega, by go_num, Lib.hid (by rw [hS.out, Hdr.out, Hpq.out]; rfl), below_drewN hbel _⟩
              case measure => simp [intOf]; omega
            · have hpq : p.eqb q = false := by simp [Pc.eqb, h3]
              have Hpq := Lib.hid hpq; clear hpq
              go_wp2
              go_quiet (fail)
              go_wp2
              go_ret
              exact ⟨by rw [hS.out, Hdr.out, Hpq.out]; rfl, below_drewN hbel _⟩
          · have hpq : p.eqb q = false := by simp [Pc.eqb, h2]
            have Hpq := Lib.hid hpq; clear hpq
            go_wp2
            go_quiet (fail)
            go_wp2
            go_ret
            exact ⟨by rw [hS.out, Hdr.out, Hpq.out]; rfl, below_drewN hbel _⟩
        · have hpq : p.eqb q = false := by simp [Pc.eqb, h1]
          have Hpq := Lib.hid hpq; clear hpq
          go_wp2
          go_quiet (fail)
          go_wp2
          go_ret
          exact ⟨by rw [hS.out, Hdr.out, Hpq.out]; rfl, below_drewN hbel _⟩
      · have d1 : l.drop k = [] := List.drop_eq_nil_of_le (by omega)
        have d2 : m.drop k = [] := List.drop_eq_nil_of_le (by omega)
        have hS2 : sameB l m = true := by rw [hS.out, d1, d2]; rfl
        have HS2 := Lib.hid hS2
        clear d1 d2 hS2
        go_wp2
        go_ret
        exact ⟨by rw [HS2.out]; rfl, hbel⟩
  · have hs : sameB l m = false := sameB_len hlen
    have Hs := Lib.hid hs; clear hs
    have hl1 : ((l.length : Int) != (m.length : Int)) = true := by simp; omega
    clear hlen
    go_enter Try.func77, Try.ntmps77
    go_wp2
    go_ret
    exact ⟨by rw [Hs.out]; rfl, Below.refl _ _⟩


def normB (l : List Pc) : Bool := if errL l = 0 then sameB l (formS l) else false
def equivB (a b : List Pc) : Bool := if equivE a b = 0 then sameB (formS a) (formS b) else false

set_option maxHeartbeats 1000000 in
theorem normal_any (v : Value) (l : List Pc) (w : World) (h : Sl pcE w v l) (hd : ∀ p, p ∈ l → p.wf) :
    Calls Try.prog 40 #[v] w fun e w' => e = .returned (.bool (normB l)) ∧ Below w.heap.size w w' := by
  have hc := check_any v l w h hd
  rw [show (lens l).2.2 = errL l from rfl] at hc
  have H := Lib.hid h; clear h
  by_cases h0 : errL l = 0
  · have hn : normB l = sameB l (formS l) := by simp [normB, h0]
    have Hn := Lib.hid hn; clear hn
    have H0 := Lib.hid h0
    rw [h0] at hc
    have Hc := Lib.hid hc; clear hc h0
    go_enter Try.func40, Try.ntmps40
    go_wp2_with fail
    refine (Hc.out).mono ?_
    rintro e w1 ⟨rfl, hb1⟩
    have H1 := Lib.hid (H.out.ext hb1)
    go_wp2_with fail
    refine (form_any v l w1 H1.out (formPre_of_lens H0.out)).mono ?_
    rintro e w2 ⟨v2, rfl, ho, hb2⟩
    have H2 := Lib.hid (H1.out.ext hb2)
    have S2 := Lib.hid (Sl.of_own ho)
    clear ho
    go_wp2_with fail
    refine (equal_any v v2 l (formS l) w2 H2.out S2.out).mono ?_
    rintro e w3 ⟨rfl, hb3⟩
    go_wp2
    go_ret
    exact ⟨by rw [Hn.out]; rfl, hb1.trans ((hb2.trans (hb3.mono hb2.size)).mono hb1.size)⟩
  · have hn : normB l = false := by simp [normB, h0]
    have Hn := Lib.hid hn; clear hn
    have hb : (errL l == 0) = false := by simpa using h0
    have Hc := Lib.hid hc; clear hc h0
    generalize errL l = E at *
    go_enter Try.func40, Try.ntmps40
    go_wp2_with fail
    refine (Hc.out).mono ?_
    rintro e w1 ⟨rfl, hb1⟩
    go_wp2
    go_ret
    exact ⟨by rw [Hn.out]; rfl, hb1⟩

end Go.Proofs.Ytdlbjfgpfjcpaaa
