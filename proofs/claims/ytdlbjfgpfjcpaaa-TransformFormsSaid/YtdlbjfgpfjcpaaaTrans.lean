/- transform.Transform: the transformed delta, or the error. Condition: the pieces read as values of their types. -/
import Derived.Test.YtdlbjfgpfjcpaaaTr9
namespace Go.Proofs.Ytdlbjfgpfjcpaaa
open Go.RowKit

theorem wk_start {w w1 : World} {m : Nat} {f : Bool} {X Y : List Pc} {A1 : Option Addr} {c1 : Nat} {A2 : Option Addr} {c2 : Nat} (h1 : w1.ownsRow w.heap.size 31 3 (.slice A1 X.length c1) X.length (pcE.flat X)) (h2 : w1.ownsRow m 31 3 (.slice A2 Y.length c2) Y.length (pcE.flat Y))
    (hm : w.heap.size ≤ m) (hd : ∀ g, (Value.slice A1 X.length c1).ownBlock = some g → g < m) (hb : Below w.heap.size w w1) :
    ∃ d1 d2, WK w (w1.heap.size + 1) w1.heap.size d1 d2 f X Y [] none 0 (w1.alloc (.cells #[.slice A1 X.length c1, .slice A2 Y.length c2, .bool f, .slice none 0 0] 93)) := by
  obtain ⟨d1, a1, a2⟩ := own_at h1
  obtain ⟨d2, b1, b2⟩ := own_at h2
  have hf := fr0 w1 (.cells #[.slice A1 X.length c1, .slice A2 Y.length c2, .bool f, .slice none 0 0] 93)
  have hs := hb.size
  refine ⟨d1, d2, ⟨A1, c1, A2, c2, heap_alloc_new w1 _, a1.keep hf (fun _ => id), b1.keep hf (fun _ => id)⟩, World.ownsRow_nil _ _ _ _, hb.alloc hs _, fun hl => ?_, fun hl => ?_, fun hl hl' => ?_, ?_⟩
  · have := a2 hl; omega
  · have := b2 hl; omega
  · have := a2 hl
    have := b2 hl'
    have := hd d1 (a2 hl).2.2
    omega
  · simp; omega

set_option maxHeartbeats 8000000 in
set_option maxRecDepth 100000 in
theorem transform_any (v u : Value) (a b : List Pc) (f : Bool) (w : World) (h : Sl pcE w v a) (k : Sl pcE w u b) (ha : ∀ p, p ∈ a → p.wf) (hb : ∀ p, p ∈ b → p.wf) :
    Calls Try.prog 52 #[v, u, .bool f] w fun e w' => ∃ v', e = .returned (.tuple #[v', .int .i64 (trE f a b)]) ∧ w'.ownsRow w.heap.size 31 3 v' (trR f a b).length (pcE.flat (trR f a b)) ∧ Below w.heap.size w w' := by
  have cP := fun w h k => pair7_any v u a b w h k ha hb
  have H := Lib.hid h; have K := Lib.hid k
  clear h k ha hb
  by_cases h0 : prE a b = 0
  · obtain ⟨ea, eb, ei⟩ := prE_ok h0
    obtain ⟨s1, s2, s3⟩ := trS_ok f ea eb ei
    have va := ((errL_iff a).1 ea).2.1
    have vb := ((errL_iff b).1 eb).2.1
    have la := form4096 ea
    have lb := form4096 eb
    have hI : TI (trS f a b) f (szL (formS a) + szL (formS b)) (formS a) (formS b) [] := ⟨rfl, Nat.le_refl _, smp_of (form_err ea), smp_of (form_err eb), by simp; omega⟩
    have eE : joinE ((trS f a b).map fun p => [p]) = trE f a b := by
      rw [trE, if_pos ea, if_pos eb, if_pos ei, joinE, singles]
    have eS : joinS ((trS f a b).map fun p => [p]) = trR f a b := by
      unfold joinS trR
      rw [eE, singles]
    have cJ := fun x w h => joined7_any x (trS f a b) w h s1 s2
    rw [eE, eS] at cJ
    unfold PairR at cP
    simp only [h0, if_true] at cP
    generalize trE f a b = E at *
    generalize trR f a b = R at *
    generalize trS f a b = T at *
    generalize formS a = X0 at *
    generalize formS b = Y0 at *
    have CP := Lib.hid cP; have CJ := Lib.hid cJ; have HI := Lib.hid hI
    clear cP cJ hI eE eS s1 s2 s3 va vb ea eb ei h0 la lb
    have hq1 : ∀ w, (binOp BinOp.neq 95 (.func (.func 86) #[] #[]) .nilFunc).run Try.prog w = .ok (.bool true) w := fun _ => by kernel_rfl
    have hq2 : ∀ w, (binOp BinOp.neq 95 (.func (.func 118) #[] #[]) .nilFunc).run Try.prog w = .ok (.bool true) w := fun _ => by kernel_rfl
    have hq3 : ∀ w, (binOp BinOp.neq 95 .nilFunc .nilFunc).run Try.prog w = .ok (.bool false) w := fun _ => by kernel_rfl
    go_enter Try.func52, Try.ntmps52
    go_wp2_with fail
    refine (CP.out _ H.out K.out).mono ?_
    rintro e w1 ⟨v1, u1, rfl, ⟨m, hm, o1, o2, hd⟩, hb1⟩
    obtain ⟨A1, c1, rfl⟩ := own_form w1 (own_zero o1)
    obtain ⟨A2, c2, rfl⟩ := own_form w1 (own_zero o2)
    obtain ⟨d1, d2, hwk⟩ := wk_start (f := f) o1 o2 hm hd hb1
    have WK0 := Lib.hid hwk
    clear hwk hd o1 o2 hb1 hm CP H K
    go_wp2_with fail
    go_loopg [12] (3 * (szL X0 + szL Y0) + 2) (fun F vs wr => ∃ (X Y O : List Pc) (A : Option Addr) (c n : Nat), Hid (WK w (w1.heap.size + 1) w1.heap.size d1 d2 f X Y O A c wr) ∧ O.length ≤ 8192 ∧
      ((vs = .func (.func 86) #[] #[] ∧ 3 * n + 2 ≤ F ∧ Hid (TI T f n X Y O)) ∨ (vs = .func (.func 118) #[] #[] ∧ 3 * n + 1 ≤ F ∧ Hid (TI T f n X Y O) ∧ Hid (kd X ≠ 2 ∧ kd Y ≠ 2)) ∨ (vs = .nilFunc ∧ Hid (T = O))))
    case atStart => exact ⟨X0, Y0, [], none, 0, szL X0 + szL Y0, WK0, by simp, .inl ⟨rfl, by omega, HI⟩⟩
    case round =>
      clear WK0 HI
      obtain ⟨X, Y, O, A, c, n, W, hOl, hm⟩ := hrel
      rcases hm with ⟨rfl, hF, hI⟩ | ⟨rfl, hF, hI, hK⟩ | ⟨rfl, hT⟩
      · clear CJ
        by_cases hA : kd X = 2 ∧ (f = true ∨ kd Y ≠ 2)
        · obtain ⟨t, x, rfl, ht⟩ : ∃ t x, X = ⟨2, 0, t⟩ :: x ∧ t ≠ [] := by
            cases X with
            | nil => exact absurd hA.1 (by simp [kd])
            | cons p x => obtain ⟨t, rfl, ht⟩ := ins_of (SmP.cons.1 hI.out.x).1.1 hA.1; exact ⟨t, x, rfl, ht⟩
          obtain ⟨n', rfl, hI'⟩ := hI.out.a ht hA.2
          have cA := Lib.hid (texts_A t wr W.out hA.2 (by omega))
          have HI' := Lib.hid hI'
          have hl' := hI'.l
          clear hA ht hI hI' W
          go_wp2_with fail
          refine (cA.out).mono ?_
          rintro e w3 ⟨rfl, A', c', hwk⟩
          have W' := Lib.hid hwk
          clear hwk cA
          unfold fT
          go_wp2_with fail
          go_roundg (3 * n' + 2)
          case measure => omega
          case rel => exact ⟨x, Y, _, A', c', n', W', by omega, .inl ⟨rfl, by omega, HI'⟩⟩
        · by_cases hB : kd Y = 2
          · obtain ⟨t, y, rfl, ht⟩ : ∃ t y, Y = ⟨2, 0, t⟩ :: y ∧ t ≠ [] := by
              cases Y with
              | nil => exact absurd hB (by simp [kd])
              | cons p x => obtain ⟨t, rfl, ht⟩ := ins_of (SmP.cons.1 hI.out.y).1.1 hB; exact ⟨t, x, rfl, ht⟩
            have hf : f = false ∨ kd X ≠ 2 := by
              by_cases hx : kd X = 2
              · left
                cases f with
                | false => rfl
                | true => exact absurd ⟨hx, .inl rfl⟩ hA
              · exact .inr hx
            obtain ⟨n', rfl, hI'⟩ := hI.out.b ht hf
            have cA := Lib.hid (texts_B t wr W.out hf (by omega))
            have HI' := Lib.hid hI'
            have hl' := hI'.l
            clear hA hB hf ht hI hI' W
            go_wp2_with fail
            refine (cA.out).mono ?_
            rintro e w3 ⟨rfl, A', c', hwk⟩
            have W' := Lib.hid hwk
            clear hwk cA
            unfold fT
            go_wp2_with fail
            go_roundg (3 * n' + 2)
            case measure => omega
            case rel => exact ⟨X, y, _, A', c', n', W', by omega, .inl ⟨rfl, by omega, HI'⟩⟩
          · have hx : kd X ≠ 2 := fun hx => hA ⟨hx, .inr hB⟩
            have cA := Lib.hid (texts_N wr W.out hx hB)
            have HK := Lib.hid (show kd X ≠ 2 ∧ kd Y ≠ 2 from ⟨hx, hB⟩)
            clear hA hB hx W
            go_wp2_with fail
            refine (cA.out).mono ?_
            rintro e w3 ⟨rfl, hwk⟩
            have W' := Lib.hid hwk
            clear hwk cA
            unfold fB
            go_wp2_with fail
            go_roundg (3 * n + 1)
            case measure => omega
            case rel => exact ⟨X, Y, O, A, c, n, W', hOl, .inr (.inl ⟨rfl, by omega, hI, HK⟩)⟩
      · clear CJ
        by_cases hn : X = [] ∨ Y = []
        · have HT := Lib.hid (hI.out.done hK.out.1 hK.out.2 hn)
          have cA := Lib.hid (bytes_end wr W.out hn)
          clear hn W hI hK
          go_wp2_with fail
          refine (cA.out).mono ?_
          rintro e w3 ⟨rfl, hwk⟩
          have W' := Lib.hid hwk
          clear hwk cA
          go_wp2_with fail
          go_roundg 0
          case measure => omega
          case rel => exact ⟨X, Y, O, A, c, n, W', hOl, .inr (.inr ⟨rfl, HT⟩)⟩
        · obtain ⟨p, x, rfl⟩ : ∃ p x, X = p :: x := by
            cases X with
            | nil => exact absurd (.inl rfl) hn
            | cons p x => exact ⟨p, x, rfl⟩
          obtain ⟨q, y, rfl⟩ : ∃ q y, Y = q :: y := by
            cases Y with
            | nil => exact absurd (.inr rfl) hn
            | cons q y => exact ⟨q, y, rfl⟩
          have hp : p.k ≠ 2 := hK.out.1
          have hq : q.k ≠ 2 := hK.out.2
          obtain ⟨u1, u2⟩ := SmP.cons.1 hI.out.x
          obtain ⟨v1, v2⟩ := SmP.cons.1 hI.out.y
          obtain ⟨p1, pt, pl, -⟩ := not_ins u1.1 hp
          obtain ⟨q1, qt, ql, -⟩ := not_ins v1.1 hq
          obtain ⟨n', rfl, hI'⟩ := hI.out.c hp hq
          have cA := Lib.hid (bytes_any p q wr W.out hp hq pt qt p1 q1 u1.2.1 v1.2.1 (by omega))
          have hl' := hI'.l
          generalize takL (min p.n q.n) p x = X' at *
          generalize takL (min p.n q.n) q y = Y' at *
          generalize (O ++ if p.k = 1 then [(⟨q.k, min p.n q.n, []⟩ : Pc)] else []) = O' at *
          have HI' := Lib.hid hI'
          clear hn W hI hK hp hq u1 u2 v1 v2 p1 pt pl q1 qt ql hI'
          go_wp2_with fail
          refine (cA.out).mono ?_
          rintro e w3 ⟨rfl, A', c', hwk⟩
          have W' := Lib.hid hwk
          clear hwk cA
          unfold fT
          go_wp2_with fail
          go_roundg (3 * n' + 2)
          case measure => omega
          case rel => exact ⟨X', Y', O', A', c', n', W', by omega, .inl ⟨rfl, by omega, HI'⟩⟩
      · have hT' := hT.out
        subst hT'
        obtain ⟨A1', c1', A2', c2', hlt, e0, e1, e2, e3, fz, -, -⟩ := W.out.cells
        have SO := Lib.hid (Sl.of_own W.out.o)
        have BO := Lib.hid W.out.bl
        clear W hT
        go_wp2_with fail
        refine (CJ.out _ _ SO.out).mono ?_
        rintro e w3 ⟨v3, rfl, ho, hb3⟩
        have HO := Lib.hid (own_base (own_zero ho) (fun g hg => Nat.le_trans BO.out.size (ho.lt g hg).1))
        have HB := Lib.hid (BO.out.trans (hb3.mono BO.out.size))
        clear ho hb3
        go_wp2
        go_ret2
        exact ⟨v3, rfl, HO.out, HB.out⟩
  · have eE : trE f a b = prE a b := by
      unfold trE
      unfold prE at h0 ⊢
      split
      · split
        · split
          · rename_i q1 q2 q3; simp [q1, q2, q3] at h0
          · rfl
        · rfl
      · rfl
    have eR : trR f a b = [] := trR_none (by rw [eE]; exact h0)
    rw [eE, eR]
    unfold PairR at cP
    simp only [h0, if_false] at cP
    have hne : (prE a b == 0) = false := by rw [beq_eq_false_iff_ne]; exact h0
    generalize prE a b = E at *
    have CP := Lib.hid cP
    clear cP h0 eE eR
    go_enter Try.func52, Try.ntmps52
    go_wp2_with fail
    refine (CP.out _ H.out K.out).mono ?_
    rintro e w1 ⟨v1, u1, rfl, ⟨rfl, rfl⟩, hb1⟩
    have B1 := Lib.hid hb1
    clear hb1 CP H K
    go_wp2
    go_ret2
    exact ⟨_, rfl, World.ownsRow_nil _ _ _ _, B1.out⟩

end Go.Proofs.Ytdlbjfgpfjcpaaa
