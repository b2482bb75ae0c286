/- transform.Transform: the transformed delta, or the error. Condition: the pieces read as values of their types. -/
import Derived.Test.YtdlbjfgpfjcpaaaTr5
import Derived.Deep.LoopGhost
namespace Go.Proofs.Ytdlbjfgpfjcpaaa
open Go.RowKit

/-- a row of the call's own as a list in its block -/
theorem own_at {w : World} {B : Nat} {A : Option Addr} {c : Nat} {l : List Pc} (h : w.ownsRow B 31 3 (.slice A l.length c) l.length (pcE.flat l)) :
    ∃ d, At w d A c l ∧ (l ≠ [] → B ≤ d ∧ d < w.heap.size ∧ (Value.slice A l.length c).ownBlock = some d) := by
  rcases h.2 with ⟨e, e0⟩ | ⟨g, cap', cur, e, hb, hg, hnc, hcm, hcs, htake⟩
  · have e1 : l = [] := List.eq_nil_of_length_eq_zero e0
    subst e1
    injection e with e1 e2 e3
    subst e1 e3
    exact ⟨0, ⟨Nat.le_refl _, by simp [maxLen], fun hh => absurd rfl hh⟩, fun hh => absurd rfl hh⟩
  · injection e with e1 e2 e3
    subst e1 e3
    refine ⟨g, ⟨hnc, hcm, fun _ => ⟨0, rfl, cur, hg, fun i j x u hx hu => ?_⟩⟩, fun _ => ⟨hb, heap_lt hg, rfl⟩⟩
    have h5 := pcE.flat_at l _ _ _ _ hx hu
    rw [← htake] at h5
    have h6 := (List.getElem?_eq_some_iff.1 h5).1
    rw [List.length_take] at h6
    rw [List.getElem?_take_of_lt (by omega)] at h5
    rw [Nat.zero_add, ← Array.getElem?_toList]
    exact h5
/-- at the head of a round -/
structure TI (T : List Pc) (f : Bool) (n : Nat) (X Y O : List Pc) : Prop where
  e : T = O ++ trF n f X Y
  s : szL X + szL Y ≤ n
  x : SmP X
  y : SmP Y
  l : O.length + X.length + Y.length ≤ 8192
theorem ins_of {p : Pc} (h : p.valid = true) (h2 : p.k = 2) : ∃ t, p = ⟨2, 0, t⟩ ∧ t ≠ [] := by
  obtain ⟨k, n, t⟩ := p
  rcases Pc.valid_cases h with ⟨u, v, z⟩ | ⟨u, v, z⟩ | ⟨u, v, z⟩
  · dsimp only at u h2; omega
  · dsimp only at u h2; omega
  · dsimp only at u v; subst u v; exact ⟨t, rfl, z⟩
theorem not_ins {p : Pc} (h : p.valid = true) (h2 : p.k ≠ 2) : 1 ≤ p.n ∧ p.t = [] ∧ lg p = p.n ∧ (p.k = 1 ∨ p.k = 3) := by
  rcases Pc.valid_cases h with ⟨u, v, z⟩ | ⟨u, v, z⟩ | ⟨u, v, z⟩
  · exact ⟨v, z, by simp [lg, z], .inl u⟩
  · exact ⟨v, z, by simp [lg, z], .inr u⟩
  · exact absurd u h2
theorem TI.a {T : List Pc} {f : Bool} {n : Nat} {t : List UInt8} {x Y O : List Pc} (h : TI T f n (⟨2, 0, t⟩ :: x) Y O) (ht : t ≠ []) (hf : f = true ∨ kd Y ≠ 2) : ∃ m, n = m + 1 ∧ TI T f m x Y (O ++ [⟨1, t.length, []⟩]) := by
  obtain ⟨e, s, hx, hy, l⟩ := h
  have h1 : 1 ≤ t.length := List.length_pos_iff.2 ht
  simp only [szL, lg] at s
  obtain ⟨m, rfl⟩ : ∃ m, n = m + 1 := ⟨n - 1, by omega⟩
  refine ⟨m, rfl, ?_, by omega, (SmP.cons.1 hx).2, hy, by simp only [List.length_append, List.length_cons, List.length_nil] at l ⊢; omega⟩
  rw [e, List.append_assoc]
  congr 1
  cases Y with
  | nil => simp [trF]
  | cons q y =>
    have hq : f = true ∨ q.k ≠ 2 := hf
    rw [trF_cc, if_pos ⟨rfl, hq⟩]
    rfl
theorem TI.b {T : List Pc} {f : Bool} {n : Nat} {t : List UInt8} {X y O : List Pc} (h : TI T f n X (⟨2, 0, t⟩ :: y) O) (ht : t ≠ []) (hf : f = false ∨ kd X ≠ 2) : ∃ m, n = m + 1 ∧ TI T f m X y (O ++ [⟨2, 0, t⟩]) := by
  obtain ⟨e, s, hx, hy, l⟩ := h
  have h1 : 1 ≤ t.length := List.length_pos_iff.2 ht
  simp only [szL, lg] at s
  obtain ⟨m, rfl⟩ : ∃ m, n = m + 1 := ⟨n - 1, by omega⟩
  refine ⟨m, rfl, ?_, by omega, hx, (SmP.cons.1 hy).2, by simp only [List.length_append, List.length_cons, List.length_nil] at l ⊢; omega⟩
  rw [e, List.append_assoc]
  congr 1
  cases X with
  | nil => simp [trF]
  | cons p x =>
    have hp : f = false ∨ p.k ≠ 2 := hf
    rw [trF_cc, if_neg (fun hh => by
      rcases hp with h | h
      · rw [h] at hh
        rcases hh.2 with h' | h'
        · cases h'
        · exact h' rfl
      · exact h hh.1), if_pos rfl]
    rfl
theorem TI.done {T : List Pc} {f : Bool} {n : Nat} {X Y O : List Pc} (h : TI T f n X Y O) (hx : kd X ≠ 2) (hy : kd Y ≠ 2) (hn : X = [] ∨ Y = []) : T = O := by
  rw [h.e]
  have : trF n f X Y = [] := by
    cases n with
    | zero => rfl
    | succ n =>
      cases X with
      | nil =>
        cases Y with
        | nil => rfl
        | cons q y => have hq : q.k ≠ 2 := hy; rw [trF, if_neg hq]
      | cons p x =>
        cases Y with
        | nil => have hp : p.k ≠ 2 := hx; rw [trF, if_neg hp]
        | cons q y => simp at hn
  rw [this, List.append_nil]
theorem TI.c {T : List Pc} {f : Bool} {n : Nat} {p q : Pc} {x y O : List Pc} (h : TI T f n (p :: x) (q :: y) O) (hp : p.k ≠ 2) (hq : q.k ≠ 2) :
    ∃ m, n = m + 1 ∧ TI T f m (takL (min p.n q.n) p x) (takL (min p.n q.n) q y) (O ++ if p.k = 1 then [⟨q.k, min p.n q.n, []⟩] else []) := by
  obtain ⟨e, s, hx, hy, l⟩ := h
  obtain ⟨u1, u2⟩ := SmP.cons.1 hx
  obtain ⟨v1, v2⟩ := SmP.cons.1 hy
  obtain ⟨p1, pt, pl, -⟩ := not_ins u1.1 hp
  obtain ⟨q1, qt, ql, -⟩ := not_ins v1.1 hq
  have m1 : 1 ≤ min p.n q.n := by omega
  have a := tak_ok u1.1 m1 (by rw [pl]; omega) x u2.val
  have b := tak_ok v1.1 m1 (by rw [ql]; omega) y v2.val
  have a7 := a.2.2.2.2.2.2.1
  have b7 := b.2.2.2.2.2.2.1
  obtain ⟨m, rfl⟩ : ∃ m, n = m + 1 := ⟨n - 1, by simp only [szL] at s; omega⟩
  refine ⟨m, rfl, ?_, by omega, (tak_sm hx m1 (by rw [pl]; omega)).2, (tak_sm hy m1 (by rw [ql]; omega)).2, ?_⟩
  · rw [e, List.append_assoc, trF_cc, if_neg (fun hh => hp hh.1), if_neg hq]
  · have l1 := a.2.2.2.2.1
    have l2 := b.2.2.2.2.1
    have l3 := a.2.2.2.2.2.1
    have l4 := b.2.2.2.2.2.1
    have l5 : (if p.k = 1 then [(⟨q.k, min p.n q.n, []⟩ : Pc)] else []).length ≤ 1 := by split <;> simp
    simp only [List.length_append, List.length_cons] at l ⊢
    by_cases h : p.n ≤ q.n
    · have := l3 (by rw [pl]; omega); omega
    · have := l4 (by rw [ql]; omega); omega
/-- bytes, in all three cases -/
theorem bytes_any {w0 : World} {B1 b d1 d2 : Nat} {f : Bool} {O x y : List Pc} {A : Option Addr} {c : Nat} (p q : Pc) (w : World) (h : WK w0 B1 b d1 d2 f (p :: x) (q :: y) O A c w) (hp : p.k ≠ 2) (hq : q.k ≠ 2) (hpt : p.t = []) (hqt : q.t = []) (hp1 : 1 ≤ p.n) (hq1 : 1 ≤ q.n) (hp2 : p.n ≤ 1048576) (hq2 : q.n ≤ 1048576) (hl : O.length ≤ 100000) :
    Calls Try.prog 118 #[.pointer (some ⟨b, 0, none⟩)] w fun e w' => e = .returned fT ∧ ∃ A' c', WK w0 B1 b d1 d2 f (takL (min p.n q.n) p x) (takL (min p.n q.n) q y) (O ++ if p.k = 1 then [⟨q.k, min p.n q.n, []⟩] else []) A' c' w' := by
  have lp : lg p = p.n := by simp [lg, hpt]
  have lq : lg q = q.n := by simp [lg, hqt]
  rcases Int.lt_trichotomy p.n q.n with hh | hh | hh
  · have e : min p.n q.n = p.n := by omega
    rw [e, show takL p.n p x = x by rw [takL, if_neg (by omega)], show takL p.n q y = ⟨q.k, q.n - p.n, q.t⟩ :: y by rw [takL, if_pos (by omega)]; simp [splB, hq]]
    exact bytes_lt p q w h hp hq hpt hqt hp1 hq1 hp2 hq2 hl hh
  · have e : min p.n q.n = p.n := by omega
    rw [e, show takL p.n p x = x by rw [takL, if_neg (by omega)], show takL p.n q y = y by rw [takL, if_neg (by omega)]]
    exact bytes_eq p q w h hp hq hpt hqt hp1 hq1 hp2 hq2 hl hh
  · have e : min p.n q.n = q.n := by omega
    rw [e, show takL q.n q y = y by rw [takL, if_neg (by omega)], show takL q.n p x = ⟨p.k, p.n - q.n, p.t⟩ :: x by rw [takL, if_pos (by omega)]; simp [splB, hp]]
    exact bytes_gt p q w h hp hq hpt hqt hp1 hq1 hp2 hq2 hl hh

open Go.RowKit

theorem wk_start {w w1 : World} {m : Nat} {f : Bool} {X Y : List Pc} {A1 : Option Addr} {c1 : Nat} {A2 : Option Addr} {c2 : Nat} (h1 : w1.ownsRow w.heap.size 31 3 (.slice A1 X.length c1) X.length (pcE.flat X)) (h2 : w1.ownsRow m 31 3 (.slice A2 Y.length c2) Y.length (pcE.flat Y))
    (hm : w.heap.size ≤ m) (hd : ∀ g, (Value.slice A1 X.length c1).ownBlock = some g → g < m) (hb : Below w.heap.size w w1) :
    ∃ d1 d2, WK w (w1.heap.size + 1) w1.heap.size d1 d2 f X Y [] none 0 (w1.alloc (.cells #[.slice A1 X.length c1, .slice A2 Y.length c2, .bool f, .slice none 0 0] 93)) := by
  obtain ⟨d1, a1, a2⟩ := own_at h1
  obtain ⟨d2, b1, b2⟩ := own_at h2
  have hf := fr0 w1 (.cells #[.slice A1 X.length c1, .slice A2 Y.length c2, .bool f, .slice none 0 0] 93)
  have hs := hb.size
  refine ⟨d1, d2, ⟨A1, c1, A2, c2, heap_alloc_new w1 _, a1.keep hf (fun _ => id), b1.keep hf (fun _ => id)⟩, World.ownsRow_nil _ _ _ _, hb.alloc hs _, fun hl => ?_, fun hl => ?_, fun hl hl' => ?_, ?_⟩
  · have := a2 hl; omega
  · have := b2 hl; omega
  · have := a2 hl
    have := b2 hl'
    have := hd d1 (a2 hl).2.2
    omega
  · simp; omega

set_option maxHeartbeats 8000000 in
set_option maxRecDepth 100000 in
theorem transform_any (v u : Value) (a b : List Pc) (f : Bool) (w : World) (h : Sl pcE w v a) (k : Sl pcE w u b) (ha : ∀ p, p ∈ a → p.wf) (hb : ∀ p, p ∈ b → p.wf) :
    Calls Try.prog 52 #[v, u, .bool f] w fun e w' => ∃ v', e = .returned (.tuple #[v', .int .i64 (trE f a b)]) ∧ w'.ownsRow w.heap.size 31 3 v' (trR f a b).length (pcE.flat (trR f a b)) ∧ Below w.heap.size w w' := by
  have cP := fun w h k => pair7_any v u a b w h k ha hb
  have H := Lib.hid h; have K := Lib.hid k
  clear h k ha hb
  by_cases h0 : prE a b = 0
  · obtain ⟨ea, eb, ei⟩ := prE_ok h0
    obtain ⟨s1, s2, s3⟩ := trS_ok f ea eb ei
    have va := ((errL_iff a).1 ea).2.1
    have vb := ((errL_iff b).1 eb).2.1
    have la := form4096 ea
    have lb := form4096 eb
    have hI : TI (trS f a b) f (szL (formS a) + szL (formS b)) (formS a) (formS b) [] := ⟨rfl, Nat.le_refl _, smp_of (form_err ea), smp_of (form_err eb), by simp; omega⟩
    have eE : joinE ((trS f a b).map fun p => [p]) = trE f a b := by
      rw [trE, if_pos ea, if_pos eb, if_pos ei, joinE, singles]
    have eS : joinS ((trS f a b).map fun p => [p]) = trR f a b := by
      unfold joinS trR
      rw [eE, singles]
    have cJ := fun x w h => joined7_any x (trS f a b) w h s1 s2
    rw [eE, eS] at cJ
    unfold PairR at cP
    simp only [h0, if_true] at cP
    generalize trE f a b = E at *
    generalize trR f a b = R at *
    generalize trS f a b = T at *
    generalize formS a = X0 at *
    generalize formS b = Y0 at *
    have CP := Lib.hid cP; have CJ := Lib.hid cJ; have HI := Lib.hid hI
    clear cP cJ hI eE eS s1 s2 s3 va vb ea eb ei h0 la lb
    have hq1 : ∀ w, (binOp BinOp.neq 95 (.func (.func 86) #[] #[]) .nilFunc).run Try.prog w = .ok (.bool true) w := fun _ => by kernel_rfl
    have hq2 : ∀ w, (binOp BinOp.neq 95 (.func (.func 118) #[] #[]) .nilFunc).run Try.prog w = .ok (.bool true) w := fun _ => by kernel_rfl
    have hq3 : ∀ w, (binOp BinOp.neq 95 .nilFunc .nilFunc).run Try.prog w = .ok (.bool false) w := fun _ => by kernel_rfl
    go_enter Try.func52, Try.ntmps52
    go_wp2_with fail
    refine (CP.out _ H.out K.out).mono ?_
    rintro e w1 ⟨v1, u1, rfl, ⟨m, hm, o1, o2, hd⟩, hb1⟩
    obtain ⟨A1, c1, rfl⟩ := own_form w1 (own_zero o1)
    obtain ⟨A2, c2, rfl⟩ := own_form w1 (own_zero o2)
    obtain ⟨d1, d2, hwk⟩ := wk_start (f := f) o1 o2 hm hd hb1
    have WK0 := Lib.hid hwk
    clear hwk hd o1 o2 hb1 hm CP H K
    go_wp2_with fail
    go_loopg [12] (3 * (szL X0 + szL Y0) + 2) (fun F vs wr => ∃ (X Y O : List Pc) (A : Option Addr) (c n : Nat), Hid (WK w (w1.heap.size + 1) w1.heap.size d1 d2 f X Y O A c wr) ∧ O.length ≤ 8192 ∧
      ((vs = .func (.func 86) #[] #[] ∧ 3 * n + 2 ≤ F ∧ Hid (TI T f n X Y O)) ∨ (vs = .func (.func 118) #[] #[] ∧ 3 * n + 1 ≤ F ∧ Hid (TI T f n X Y O) ∧ Hid (kd X ≠ 2 ∧ kd Y ≠ 2)) ∨ (vs = .nilFunc ∧ Hid (T = O))))
    case atStart => exact ⟨X0, Y0, [], none, 0, szL X0 + szL Y0, WK0, by simp, .inl ⟨rfl, by omega, HI⟩⟩
    case round =>
      clear WK0 HI
      obtain ⟨X, Y, O, A, c, n, W, hOl, hm⟩ := hrel
      rcases hm with ⟨rfl, hF, hI⟩ | ⟨rfl, hF, hI, hK⟩ | ⟨rfl, hT⟩
      · clear CJ
        by_cases hA : kd X = 2 ∧ (f = true ∨ kd Y ≠ 2)
        · obtain ⟨t, x, rfl, ht⟩ : ∃ t x, X = ⟨2, 0, t⟩ :: x ∧ t ≠ [] := by
            cases X with
            | nil => exact absurd hA.1 (by simp [kd])
            | cons p x => obtain ⟨t, rfl, ht⟩ := ins_of (SmP.cons.1 hI.out.x).1.1 hA.1; exact ⟨t, x, rfl, ht⟩
          obtain ⟨n', rfl, hI'⟩ := hI.out.a ht hA.2
          have cA := Lib.hid (texts_A t wr W.out hA.2 (by omega))
          have HI' := Lib.hid hI'
          have hl' := hI'.l
          clear hA ht hI hI' W
          go_wp2_with fail
          refine (cA.out).mono ?_
          rintro e w3 ⟨rfl, A', c', hwk⟩
          have W' := Lib.hid hwk
          clear hwk cA
          unfold fT
          go_wp2_with fail
          go_roundg (3 * n' + 2)
          case measure => omega
          case rel => exact ⟨x, Y, _, A', c', n', W', by omega, .inl ⟨rfl, by omega, HI'⟩⟩
        · by_cases hB : kd Y = 2
          · obtain ⟨t, y, rfl, ht⟩ : ∃ t y, Y = ⟨2, 0, t⟩ :: y ∧ t ≠ [] := by
              cases Y with
              | nil => exact absurd hB (by simp [kd])
              | cons p x => obtain ⟨t, rfl, ht⟩ := ins_of (SmP.cons.1 hI.out.y).1.1 hB; exact ⟨t, x, rfl, ht⟩
            have hf : f = false ∨ kd X ≠ 2 := by
              by_cases hx : kd X = 2
              · left
                cases f with
                | false => rfl
                | true => exact absurd ⟨hx, .inl rfl⟩ hA
              · exact .inr hx
            obtain ⟨n', rfl, hI'⟩ := hI.out.b ht hf
            have cA := Lib.hid (texts_B t wr W.out hf (by omega))
            have HI' := Lib.hid hI'
            have hl' := hI'.l
            clear hA hB hf ht hI hI' W
            go_wp2_with fail
            refine (cA.out).mono ?_
            rintro e w3 ⟨rfl, A', c', hwk⟩
            have W' := Lib.hid hwk
            clear hwk cA
            unfold fT
            go_wp2_with fail
            go_roundg (3 * n' + 2)
            case measure => omega
            case rel => exact ⟨X, y, _, A', c', n', W', by omega, .inl ⟨rfl, by omega, HI'⟩⟩
          · have hx : kd X ≠ 2 := fun hx => hA ⟨hx, .inr hB⟩
            have cA := Lib.hid (texts_N wr W.out hx hB)
            have HK := Lib.hid (show kd X ≠ 2 ∧ kd Y ≠ 2 from ⟨hx, hB⟩)
            clear hA hB hx W
            go_wp2_with fail
            refine (cA.out).mono ?_
            rintro e w3 ⟨rfl, hwk⟩
            have W' := Lib.hid hwk
            clear hwk cA
            unfold fB
            go_wp2_with fail
            go_roundg (3 * n + 1)
            case measure => omega
            case rel => exact ⟨X, Y, O, A, c, n, W', hOl, .inr (.inl ⟨rfl, by omega, hI, HK⟩)⟩
      · clear CJ
        by_cases hn : X = [] ∨ Y = []
        · have HT := Lib.hid (hI.out.done hK.out.1 hK.out.2 hn)
          have cA := Lib.hid (bytes_end wr W.out hn)
          clear hn W hI hK
          go_wp2_with fail
          refine (cA.out).mono ?_
          rintro e w3 ⟨rfl, hwk⟩
          have W' := Lib.hid hwk
          clear hwk cA
          go_wp2_with fail
          go_roundg 0
          case measure => omega
          case rel => exact ⟨X, Y, O, A, c, n, W', hOl, .inr (.inr ⟨rfl, HT⟩)⟩
        · obtain ⟨p, x, rfl⟩ : ∃ p x, X = p :: x := by
            cases X with
            | nil => exact absurd (.inl rfl) hn
            | cons p x => exact ⟨p, x, rfl⟩
          obtain ⟨q, y, rfl⟩ : ∃ q y, Y = q :: y := by
            cases Y with
            | nil => exact absurd (.inr rfl) hn
            | cons q y => exact ⟨q, y, rfl⟩
          have hp : p.k ≠ 2 := hK.out.1
          have hq : q.k ≠ 2 := hK.out.2
          obtain ⟨u1, u2⟩ := SmP.cons.1 hI.out.x
          obtain ⟨v1, v2⟩ := SmP.cons.1 hI.out.y
          obtain ⟨p1, pt, pl, -⟩ := not_ins u1.1 hp
          obtain ⟨q1, qt, ql, -⟩ := not_ins v1.1 hq
          obtain ⟨n', rfl, hI'⟩ := hI.out.c hp hq
          have cA := Lib.hid (bytes_any p q wr W.out hp hq pt qt p1 q1 u1.2.1 v1.2.1 (by omega))
          have hl' := hI'.l
          generalize takL (min p.n q.n) p x = X' at *
          generalize takL (min p.n q.n) q y = Y' at *
          generalize (O ++ if p.k = 1 then [(⟨q.k, min p.n q.n, []⟩ : Pc)] else []) = O' at *
          have HI' := Lib.hid hI'
          clear hn W hI hK hp hq u1 u2 v1 v2 p1 pt pl q1 qt ql hI'
          go_wp2_with fail
          refine (cA.out).mono ?_
          rintro e w3 ⟨rfl, A', c', hwk⟩
          have W' := Lib.hid hwk
          clear hwk cA
          unfold fT
          go_wp2_with fail
          go_roundg (3 * n' + 2)
          case measure => omega
          case rel => exact ⟨X', Y', O', A', c', n', W', by omega, .inl ⟨rfl, by omega, HI'⟩⟩
      · have hT' := hT.out
        subst hT'
        obtain ⟨A1', c1', A2', c2', hlt, e0, e1, e2, e3, fz, -, -⟩ := W.out.cells
        have SO := Lib.hid (Sl.of_own W.out.o)
        have BO := Lib.hid W.out.bl
        clear W hT
        go_wp2_with fail
        refine (CJ.out _ _ SO.out).mono ?_
        rintro e w3 ⟨v3, rfl, ho, hb3⟩
        have HO := Lib.hid (own_base (own_zero ho) (fun g hg => Nat.le_trans BO.out.size (ho.lt g hg).1))
        have HB := Lib.hid (BO.out.trans (hb3.mono BO.out.size))
        clear ho hb3
        go_wp2
        go_ret2
        exact ⟨v3, rfl, HO.out, HB.out⟩
  · have eE : trE f a b = prE a b := by
      unfold trE
      unfold prE at h0 ⊢
      split
      · split
        · split
          · rename_i q1 q2 q3; simp [q1, q2, q3] at h0
          · rfl
        · rfl
      · rfl
    have eR : trR f a b = [] := trR_none (by rw [eE]; exact h0)
    rw [eE, eR]
    unfold PairR at cP
    simp only [h0, if_false] at cP
    have hne : (prE a b == 0) = false := by rw [beq_eq_false_iff_ne]; exact h0
    generalize prE a b = E at *
    have CP := Lib.hid cP
    clear cP h0 eE eR
    go_enter Try.func52, Try.ntmps52
    go_wp2_with fail
    refine (CP.out _ H.out K.out).mono ?_
    rintro e w1 ⟨v1, u1, rfl, ⟨rfl, rfl⟩, hb1⟩
    have B1 := Lib.hid hb1
    clear hb1 CP H K
    go_wp2
    go_ret2
    exact ⟨_, rfl, World.ownsRow_nil _ _ _ _, B1.out⟩

end Go.Proofs.Ytdlbjfgpfjcpaaa
