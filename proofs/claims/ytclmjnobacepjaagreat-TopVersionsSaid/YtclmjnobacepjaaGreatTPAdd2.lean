/- rope.Pen.add: an inner plan; any plan. -/
import Derived.Test.YtclmjnobacepjaaGreatJ26
namespace Go.Proofs.YtclmjnobacepjaaGreat
open Go.RowKit

/-- the kids' boxes while they are noted: root box (rb), variable (bk) and row -/
structure KidsA (w0 : World) (A : AF) (G : Ar) (bp h : Nat) (xs : List Nd) (bxs : List (Nat × Nat)) (N0 : Nat → Prop) (w : World) (bt rb bk : Nat) (tc rc : Array Value) (Is : List PI) (ys : List Nd) (kbs ks : List Nat) (js' : List Jb) (rbs' : List Nat) (bxs' : List (Nat × Nat)) (N : Nat → Prop) (W : World) : Prop where
  pen : PenA w0 A G bp (xs ++ ys) js' rbs' bxs' N W
  kids : AddL G xs ys h Is ks
  row : ∃ Av c, Bk W bk #[.slice Av kbs.length c] 172 ∧ Ow ptE W w.heap.size 130 (.slice Av kbs.length c) kbs ∧ ∀ g, (Value.slice Av kbs.length c).ownBlock = some g → ¬ N g
  bx : All2 (fun b k => (b, k) ∈ bxs') kbs ks
  sub : ∀ p ∈ bxs, p ∈ bxs'
  tree : Bk W bt tc 76
  root : Bk W rb rc 39
  nr : ¬ N rb
  nt : ¬ N bt
  nk : ¬ N bk
  out : ∀ b, N b → N0 b ∨ w.heap.size ≤ b
  keep : KeepO N0 w W

def txT (Is : List PI) : List UInt8 := (Is.map PI.T).flatten
theorem txT_take {Is : List PI} {k : Nat} {J : PI} (h : Is[k]? = some J) : txT (Is.take (k + 1)) = txT (Is.take k) ++ J.T := by
  unfold txT
  rw [List.take_add_one, h]
  simp
theorem txT_le (Is : List PI) (k : Nat) : (txT (Is.take k)).length ≤ (txT Is).length := by
  unfold txT
  conv => rhs; rw [← List.take_append_drop k Is]
  rw [List.map_append, List.flatten_append, List.length_append]
  omega
theorem KidsA.setRoot {w0 : World} {A : AF} {G : Ar} {bp h : Nat} {xs : List Nd} {bxs : List (Nat × Nat)} {N0 : Nat → Prop} {w : World} {bt rb bk : Nat} {tc rc : Array Value} {Is : List PI} {ys : List Nd} {kbs ks : List Nat} {js' : List Jb} {rbs' : List Nat} {bxs' : List (Nat × Nat)} {N : Nat → Prop} {W W' : World}
    (K : KidsA w0 A G bp h xs bxs N0 w bt rb bk tc rc Is ys kbs ks js' rbs' bxs' N W) (hw : w.heap.size ≤ rb) (hW : ∀ b, b ≠ rb → W'.heap[b]? = W.heap[b]?) (hs : W'.heap.size = W.heap.size) (hb : Below w0.heap.size w0 W') {rc' : Array Value} (hr : Bk W' rb rc' 39) :
    KidsA w0 A G bp h xs bxs N0 w bt rb bk tc rc' Is ys kbs ks js' rbs' bxs' N W' := by
  obtain ⟨Av, c, r1, r2, r3⟩ := K.row
  refine ⟨K.pen.keep hb (by omega) (fun b q => hW b (fun e => K.nr (e ▸ q))), K.kids, ⟨Av, c, (hW bk (bk_ne r1 K.root (by decide))).trans r1, r2.kept fun g hg => hW g (fun e => r2.ne_bk K.root (by decide) g hg e), r3⟩, K.bx, K.sub, (hW bt (bk_ne K.tree K.root (by decide))).trans K.tree, hr, K.nr, K.nt, K.nk, K.out, ⟨by have := K.keep.1; omega, fun b hb hn => (hW b (by omega)).trans (K.keep.2 b hb hn)⟩⟩

set_option maxHeartbeats 4000000 in
set_option maxRecDepth 100000 in
theorem add_in (w0 : World) (A : AF) (G : Ar) (bp h : Nat) (IH : AddSays w0 A G bp h) (ap : Option Addr) (cap : Nat) (l : List TC) (Is : List PI) (xs : List Nd) (js : List Jb) (rbs : List Nat) (bxs : List (Nat × Nat)) (N : Nat → Prop) (w : World) (p : PenA w0 A G bp xs js rbs bxs N w) (hsl : Sl tcE w0 (.slice ap l.length cap) l) (h2 : 2 ≤ l.length) (h4 : l.length ≤ 4) (ha : All2 (KV G FT w0 h) l Is) (h14 : h ≤ 14) (hle : G.length + xs.length + (sumPI Is).n ≤ 1000) (hT : (sumPI Is).T.length ≤ 65536) :
    Calls Tryz.prog 65 #[.pointer (some ⟨bp, 0, none⟩), (inC h ap l.length cap).v] w fun e W' => ∃ (rb k : Nat) (ys : List Nd) (js' : List Jb) (rbs' : List Nat) (bxs' : List (Nat × Nat)) (N' : Nat → Prop), e = .returned (.pointer (some ⟨rb, 0, none⟩)) ∧ PenA w0 A G bp (xs ++ ys) js' rbs' bxs' N' W' ∧ (rb, k) ∈ bxs' ∧ (∀ p ∈ bxs, p ∈ bxs') ∧ AddV G xs ys (h + 1) (sumPI Is) k ∧ KeepO N w W' ∧ ∀ b, N' b → N b ∨ w.heap.size ≤ b := by
  rw [inC_v]
  have hsw := hsl.ext p.below
  have h0 : (((h : Int) + 1) == 0) = false := by rw [beq_eq_false_iff_ne]; omega
  have hl0 : ((l.length : Int) == 0) = false := by rw [beq_eq_false_iff_ne]; omega
  have P := Lib.hid p; have HS := Lib.hid hsl; have HA := Lib.hid ha; have HLE := Lib.hid hle; have HT := Lib.hid hT
  have hlen := Lib.hid ha.len
  obtain ⟨b, off, cap', hv, hb, -⟩ := hsl.tc (k := 0) (by omega)
  obtain ⟨rfl, rfl⟩ : ap = some ⟨b, off, none⟩ ∧ cap = cap' := by injection hv with e1 e2 e3; exact ⟨e1, e3⟩
  have l4i : (l.length : Int) ≤ 4 := by omega
  have H2 := Lib.hid h2; have H4 := Lib.hid h4
  have hmf : ∀ (fn : Fn) (first cap : Array Value) (w : World), (Instr.makeFunc fn first cap).run Tryz.prog w = .ok (.func fn first cap) w := fun _ _ _ _ => rfl
  have cIH := IH
  unfold AddSays TC.v at cIH
  have CI := Lib.hid cIH
  clear p hsl ha IH cIH hv hsw hle hT h2 h4
  go_enter Tryz.func65, Tryz.ntmps65
  go_wp2_with fail
  go_loopw [22] (fun i wr => ∃ j : Nat, j ≤ l.length ∧ i = .int .i64 j ∧ ∃ (ys : List Nd) (kbs ks : List Nat) (js' : List Jb) (rbs' : List Nat) (bxs' : List (Nat × Nat)) (N' : Nat → Prop) (mb mr mn : Nat), Hid ((⟨mb, mr, mn⟩ : Ms) = meas (txT (Is.take j))) ∧ Hid (KidsA w0 A G bp h xs bxs N w w.heap.size (w.heap.size + 1) (w.heap.size + 1 + 1) #[.int .u64 0, .int .i64 ((h : Int) + 1), .int .i64 0, .int .i64 0, .int .i64 0, .string ⟨#[]⟩, .slice (some ⟨b, off, none⟩) l.length cap] #[.int .u64 0, .int .i64 ((h : Int) + 1), .int .i64 mb, .int .i64 mr, .int .i64 mn] (Is.take j) ys kbs ks js' rbs' bxs' N' wr)) (fun i _ => l.length - (intOf i).toNat)
  case atStart =>
    refine ⟨0, by omega, rfl, [], [], [], js, rbs, bxs, N, 0, 0, 0, Lib.hid rfl, Lib.hid ?_⟩
    have hsz : ∀ b, N b → b < w.heap.size := fun b q => (P.out.core.nlt b q).2
    refine ⟨by rw [List.append_nil]; exact P.out.ext (bal (bal (bal (Below.refl _ _)))), AddL.nil _ _ _, ⟨none, 0, ?_, Ow.nil _ _ _ _, fun g hg => (by cases hg)⟩, trivial, fun _ q => q, (Bk.new _ _ _).alloc.alloc, ?_, fun q => by have := hsz _ q; omega, fun q => by have := hsz _ q; omega, fun q => by have := hsz _ q; omega, fun b q => .inl q, KeepO.of_below (bal (bal (bal (Below.refl _ _))))⟩
    · have := bal2' (w.alloc (.cells #[.int .u64 0, .int .i64 ((h : Int) + 1), .int .i64 0, .int .i64 0, .int .i64 0, .string ⟨#[]⟩, .slice (some ⟨b, off, none⟩) l.length cap] 76)) (o := .cells #[.int .u64 0, .int .i64 ((h : Int) + 1), .int .i64 0, .int .i64 0, .int .i64 0] 39) (cs := #[.slice none 0 0]) (t := 172)
      rw [World.size_alloc] at this
      exact this
    · exact (bal2' w).alloc
  case round =>
    obtain ⟨j, hj, rfl, ys, kbs, ks, js', rbs', bxs', N', mb, mr, mn, HM, HK⟩ := hrel
    have hbl2 := HK.out.bx.len
    have hkl := HK.out.kids.all.len
    rw [List.length_take, ← hlen.out, Nat.min_eq_left hj] at hkl
    have HKL := Lib.hid (show kbs.length = j by omega)
    have hkj : kbs.length ≤ 4 := by omega
    clear hkl hbl2
    have hwr := HK.out.keep.1
    have hw3 : w.heap.size + 1 + 1 < wr.heap.size := by obtain ⟨Av, c, r1, -⟩ := HK.out.row; exact r1.lt
    by_cases hlt : j < l.length
    · obtain ⟨b', off', cap'', hv, -, hcc⟩ := HS.out.tc (k := j) hlt
      obtain ⟨rfl, rfl, rfl⟩ : b = b' ∧ off = off' ∧ cap = cap'' := by injection hv with e1 e2 e3; injection e1 with e1; injection e1 with e4 e5; exact ⟨e4, e5, e3⟩
      obtain ⟨J, hJ, hP⟩ := HA.out.get (List.getElem?_eq_getElem hlt)
      obtain ⟨q0, q1, q2, q3, q4, q5, q6⟩ := hcc wr HK.out.pen.below
      have hbw : b < wr.heap.size := by have := HK.out.pen.below.size; omega
      have hnn : ys.length + J.n + 1 ≤ (sumPI Is).n := by
        have e1 := HK.out.kids.n
        have e2 := numN_take hJ
        have e3 := numN_le Is (j + 1)
        have e4 : (sumPI Is).n = 1 + numN Is := rfl
        have e5 : ys.length = numN (Is.take j) := e1
        omega
      have hTJ : J.T.length + (txT (Is.take j)).length ≤ 65536 := by
        have e1 := txT_le Is (j + 1)
        rw [txT_take hJ, List.length_append] at e1
        have e2 : (txT Is).length ≤ 65536 := HT.out
        omega
      have CK := Lib.hid (fun W (q : PenA w0 A G bp (xs ++ ys) js' rbs' bxs' N' W) => CI.out l[j] J (xs ++ ys) js' rbs' bxs' N' W q hP.1 (by rw [List.length_append]; have := HLE.out; omega) (by omega))
      have HTK := Lib.hid (txT_take hJ)
      have HIK := Lib.hid (show Is.take (j + 1) = Is.take j ++ [J] by rw [List.take_add_one, hJ]; rfl)
      have HTJ := Lib.hid hTJ
      have hji : (j : Int) < (l.length : Int) := by omega
      clear hcc hv hP hJ hnn hTJ
      generalize l[j] = m at *
      obtain ⟨mo, mh, m1, m2, m3, mt, mp, ml, mc⟩ := m
      simp only at *
      go_wp2_with fail
      refine (CK.out _ (HK.out.pen.ext (bal (Below.refl _ _)))).mono ?_
      rintro e w8 ⟨rb8, k8, zs, js8, rbs8, bxs8, N8, rfl, hp8, hb8, hsub8, hv8, hk8, hn8⟩
      have hwr8 : wr.heap.size + 1 ≤ w8.heap.size := by have := hk8.1; simp at this; omega
      have hsw8 : wr.heap.size < (wr.alloc (.cells #[.int .u64 mo, .int .i64 mh, .int .i64 m1, .int .i64 m2, .int .i64 m3, .string ⟨mt.toArray⟩, .slice mp ml mc] 76)).heap.size := by simp
      have mvb : ∀ bb cs t, Bk wr bb cs t → ¬ N' bb → Bk w8 bb cs t := fun bb cs t hq hn => hk8.bk hq.alloc hn
      have mvn : ∀ bb, bb < wr.heap.size → ¬ N' bb → ¬ N8 bb := fun bb hq hn q => (hn8 bb q).elim hn (fun e => by omega)
      obtain ⟨Av, c, ro1, ro2, ro3⟩ := HK.out.row
      have hO8 := mvb _ _ _ ro1 HK.out.nk
      have hR8 : Ow ptE w8 w.heap.size 130 (.slice Av kbs.length c) kbs := (ro2.alloc _).kept fun g hg => hk8.2 g (by have := (ro2.lt g hg).2; omega) (ro3 g hg)
      obtain ⟨o0, of0⟩ := hO8.one
      have hlO := hO8.lt
      have HR8 := Lib.hid hR8; have HO8 := Lib.hid hO8
      have hrow8 : ∀ g, (Value.slice Av kbs.length c).ownBlock = some g → ¬ N8 g := fun g hg => mvn g (ro2.lt g hg).2 (ro3 g hg)
      have hbx8 := HK.out.bx.imp (fun b k _ _ q => hsub8 _ q)
      have hkids8 := HK.out.kids.snoc hv8
      rw [← HIK.out] at hkids8
      have hkid := hp8.core.box rb8 k8 hb8
      have htx := hv8.txt
      have hlt8 := hv8.lt
      have hkc : rbC (G ++ (xs ++ ys ++ zs)) (G.length + 0) k8 = #[.int .u64 (if k8 < G.length then hd k8 else 0 : Nat), .int .i64 (htOf (G ++ (xs ++ ys ++ zs)) k8), .int .i64 (meas J.T).b, .int .i64 (meas J.T).r, .int .i64 (meas J.T).n] := by
        unfold rbC
        rw [htx]; rfl
      rw [hkc] at hkid
      generalize (if k8 < G.length then hd k8 else 0) = at8 at *
      generalize htOf (G ++ (xs ++ ys ++ zs)) k8 = ht8 at *
      have HT8 := Lib.hid (mvb _ _ _ HK.out.tree HK.out.nt)
      have HRT8 := Lib.hid (mvb _ _ _ HK.out.root HK.out.nr)
      have HNN := Lib.hid (show ¬ N8 w.heap.size ∧ ¬ N8 (w.heap.size + 1) ∧ ¬ N8 (w.heap.size + 1 + 1) from ⟨mvn _ (by omega) HK.out.nt, mvn _ (by omega) HK.out.nr, mvn _ (by omega) HK.out.nk⟩)
      have HP8 := Lib.hid hp8; have HB8 := Lib.hid hb8; have HSUB := Lib.hid (fun p q => hsub8 p (HK.out.sub p q)); have HKEEP := Lib.hid ((HK.out.keep.trans (KeepO.of_below (N := N') (bal (Below.refl _ _))) (fun g q => HK.out.out g q)).trans hk8 (fun g q => HK.out.out g q))
      have HOUT := Lib.hid (show ∀ b, N8 b → N b ∨ w.heap.size ≤ b from fun b q => (hn8 b q).elim (HK.out.out b) (fun e => .inr (by omega)))
      have HROW8 := Lib.hid hrow8; have HBX8 := Lib.hid hbx8; have HKIDS8 := Lib.hid hkids8; have HKID := Lib.hid hkid.2.2; have HKN := Lib.hid hkid.1
      clear hp8 hb8 hsub8 hv8 hk8 hn8 mvb mvn ro1 ro2 ro3 hR8 hrow8 hbx8 hkids8 hkid htx hkc HK CK hO8 HIK hlt8
      go_wp2_with (at_builtin; refine Hid.out ?_)
      refine Lib.hid ?_
      refine wpOw1b _ ptOK rfl (.tmp 29) (.tmp 31) rfl w.heap.size (by first | (simp; done) | (simp; omega)) (.slice Av kbs.length c) kbs rfl (HR8.out.alloc _) rb8 w8.heap.size 1 rfl (new_cells _ _ _) (by omega) ?_
      intro A9 c9 w9 hown9 hg9 hpl9
      have hOa := HR8.out.alloc (.cells #[.pointer (some ⟨rb8, 0, none⟩)] 130)
      have hg9' : (w8.alloc (.cells #[.pointer (some ⟨rb8, 0, none⟩)] 130)).grownBy w9 (Value.slice Av kbs.length c).ownBlock := hg9
      have hz8 : (w8.alloc (.cells #[.pointer (some ⟨rb8, 0, none⟩)] 130)).heap.size = w8.heap.size + 1 := by simp
      have hz9 := hg9'.size
      have hw8b := HP8.out.below.size
      have hww := P.out.below.size
      have mv1 : ∀ bb, bb < w8.heap.size → bb ≠ w.heap.size + 1 + 1 → (∀ g, (Value.slice Av kbs.length c).ownBlock = some g → g ≠ bb) → (w9.setCell ⟨w.heap.size + 1 + 1, 0, none⟩ (.slice A9 (kbs.length + 1) c9)).heap[bb]? = w8.heap[bb]? := fun bb hq h1 h2 =>
        (Below.heap_setCell _ _ _ _ h1).trans ((hg9'.block bb (by omega) (fun e => h2 bb e.symm rfl)).trans (Below.heap_alloc _ _ _ hq))
      have mv9 : ∀ bb cs t, Bk w8 bb cs t → 130 ≠ t → bb ≠ w.heap.size + 1 + 1 → Bk (w9.setCell ⟨w.heap.size + 1 + 1, 0, none⟩ (.slice A9 (kbs.length + 1) c9)) bb cs t := fun bb cs t hq hne h1 =>
        (mv1 bb hq.lt h1 (fun g hg => HR8.out.ne_bk hq hne g hg)).trans hq
      have hO9 : Bk w9 (w.heap.size + 1 + 1) #[.slice Av kbs.length c] 172 := HO8.out.alloc.grown hg9' (fun e => hOa.ne_bk HO8.out.alloc (by decide) _ e.symm rfl)
      have hlO9 := hO9.lt
      obtain ⟨o9, of9⟩ := hO9.one
      have hB9 : Below w0.heap.size w0 (w9.setCell ⟨w.heap.size + 1 + 1, 0, none⟩ (.slice A9 (kbs.length + 1) c9)) := ((HP8.out.below.alloc HP8.out.below.size _).grown hg9' (by omega) (fun g hg => by have := (HR8.out.lt g hg).1; omega)).setCell (by simp; omega) _
      have hK9 : KidsA w0 A G bp h xs bxs N w w.heap.size (w.heap.size + 1) (w.heap.size + 1 + 1) #[.int .u64 0, .int .i64 ((h : Int) + 1), .int .i64 0, .int .i64 0, .int .i64 0, .string ⟨#[]⟩, .slice (some ⟨b, off, none⟩) l.length cap] #[.int .u64 0, .int .i64 ((h : Int) + 1), .int .i64 mb, .int .i64 mr, .int .i64 mn] (Is.take (j + 1)) (ys ++ zs) (kbs ++ [rb8]) (ks ++ [k8]) js8 rbs8 bxs8 N8 (w9.setCell ⟨w.heap.size + 1 + 1, 0, none⟩ (.slice A9 (kbs.length + 1) c9)) := by
        refine ⟨by rw [← List.append_assoc]; exact HP8.out.keep hB9 (by simp; omega) (fun bb q => mv1 bb (HP8.out.core.nlt bb q).2 (fun e => HNN.out.2.2 (e ▸ q)) (fun g hg e => HROW8.out g hg (e ▸ q))), HKIDS8.out, ⟨A9, c9, ?_, ?_, ?_⟩, HBX8.out.append ⟨HB8.out, trivial⟩, HSUB.out, mv9 _ _ _ HT8.out (by decide) (by omega), mv9 _ _ _ HRT8.out (by decide) (by omega), HNN.out.2.1, HNN.out.1, HNN.out.2.2, HOUT.out, ⟨by have := HKEEP.out.1; simp; omega, fun bb hq hn => (mv1 bb (by have := HKEEP.out.1; omega) (by omega) (fun g hg e => by have := (HR8.out.lt g hg).1; omega)).trans (HKEEP.out.2 bb hq hn)⟩⟩
        · rw [List.length_append]; exact hO9.set 0 _
        · rw [List.length_append]; exact hown9.kept fun g hg => Below.heap_setCell _ _ _ _ (hown9.ne_bk hO9 (by decide) g hg)
        · intro g hg q
          rw [List.length_append] at hg
          rcases hpl9 with e | e
          · exact HROW8.out g (by rw [← e]; exact hg) q
          · have e2 : some g = some (w8.alloc (.cells #[.pointer (some ⟨rb8, 0, none⟩)] 130)).heap.size := by rw [← e]; exact hg.symm
            have := Option.some.inj e2
            have := (HP8.out.core.nlt g q).2
            omega
      have hkid9 := mv9 _ _ _ HKID.out (by decide) (fun e => HNN.out.2.2 (e ▸ HKN.out))
      have hne9 : rb8 ≠ w.heap.size + 1 := fun e => HNN.out.2.1 (e ▸ HKN.out)
      have HK9 := Lib.hid hK9; have HKID9 := Lib.hid hkid9
      clear hg9 hg9' hown9 hpl9 mv1 mv9 hB9 hK9 hkid9 hOa hz8 hz9 HKID HT8 HRT8 HO8 HR8 HROW8 HBX8 HKIDS8 HP8 HB8 HSUB HKEEP HOUT o0 of0 hlO
      go_upto_region 8 with (fail)
      generalize w9.setCell ⟨w.heap.size + 1 + 1, 0, none⟩ (.slice A9 (kbs.length + 1) c9) = W9 at *
      clear hO9 hlO9 o9 of9
      obtain ⟨r0, r1, r2, r3, r4, g0, g1, g2, g3, g4⟩ := HK9.out.root.five
      obtain ⟨s0, s1, s2, s3, s4, -⟩ := HKID9.out.five
      have hlr := HK9.out.root.lt
      have hls := HKID9.out.lt
      have u1 : mb = (txT (Is.take j)).length := by have := HM.out; injection this
      have u2 : mr ≤ mb ∧ mn ≤ mb := by
        have e1 := HM.out
        have e2 := meas_rb (txT (Is.take j))
        have e3 := meas_nr (txT (Is.take j))
        rw [← e1] at e2 e3
        simp only at e2 e3
        omega
      have u3 := meas_rb J.T
      have u4 := meas_nr J.T
      have u5 := meas_b J.T
      have u6 := HTJ.out
      have i1 := Lib.hid (IntWalk.i64_in ((mb : Int) + ((meas J.T).b : Int)) ⟨by omega, by omega⟩)
      have i2 := Lib.hid (IntWalk.i64_in ((mr : Int) + ((meas J.T).r : Int)) ⟨by omega, by omega⟩)
      have i3 := Lib.hid (IntWalk.i64_in ((mn : Int) + ((meas J.T).n : Int)) ⟨by omega, by omega⟩)
      have hsum : (⟨mb + (meas J.T).b, mr + (meas J.T).r, mn + (meas J.T).n⟩ : Ms) = meas (txT (Is.take (j + 1))) := by
        rw [HTK.out, meas_append, ← HM.out]; rfl
      have HSUM := Lib.hid hsum
      clear hsum u1 u2 u3 u4 u5 u6 HM HTJ HTK
      generalize (meas J.T).b = jb at *
      generalize (meas J.T).r = jr at *
      generalize (meas J.T).n = jn at *
      have v1 := i1.out; have v2 := i2.out; have v3 := i3.out
      go_region
      go_wp2_with fail
      go_region
      go_wp2_with fail
      go_region
      go_wp2_with fail
      go_roundw
      case rel =>
        refine ⟨j + 1, by omega, by go_num, ys ++ zs, kbs ++ [rb8], ks ++ [k8], js8, rbs8, bxs8, N8, mb + jb, mr + jr, mn + jn, HSUM, Lib.hid ?_⟩
        have hr10 : Bk ((((((W9.drew.setCell ⟨w.heap.size + 1, 2, none⟩ (.int .i64 ((mb : Int) + jb))).drew.setCell ⟨w.heap.size + 1, 3, none⟩ (.int .i64 ((mr : Int) + jr))).drew.setCell ⟨w.heap.size + 1, 4, none⟩ (.int .i64 ((mn : Int) + jn)))))) (w.heap.size + 1) #[.int .u64 0, .int .i64 ((h : Int) + 1), .int .i64 ((mb : Int) + jb), .int .i64 ((mr : Int) + jr), .int .i64 ((mn : Int) + jn)] 39 := ((HK9.out.root.drew.set 2 _).drew.set 3 _).drew.set 4 _
        refine HK9.out.setRoot (W' := ((((((W9.drew.setCell ⟨w.heap.size + 1, 2, none⟩ (.int .i64 ((mb : Int) + jb))).drew.setCell ⟨w.heap.size + 1, 3, none⟩ (.int .i64 ((mr : Int) + jr))).drew.setCell ⟨w.heap.size + 1, 4, none⟩ (.int .i64 ((mn : Int) + jn))))))) (by omega) (fun bb hbb => ?_) ?_ ?_ hr10
        · exact (Below.heap_setCell _ _ _ _ hbb).trans ((Below.heap_setCell _ _ _ _ hbb).trans (Below.heap_setCell _ _ _ _ hbb))
        · exact (World.size_setCell _ _ _).trans ((World.size_setCell _ _ _).trans (World.size_setCell _ _ _))
        · exact Below.setCell (p := ⟨w.heap.size + 1, 4, none⟩) (Below.drew (Below.setCell (p := ⟨w.heap.size + 1, 3, none⟩) (Below.drew (Below.setCell (p := ⟨w.heap.size + 1, 2, none⟩) (Below.drew HK9.out.pen.below) (by show w0.heap.size ≤ w.heap.size + 1; omega) _)) (by show w0.heap.size ≤ w.heap.size + 1; omega) _)) (by show w0.heap.size ≤ w.heap.size + 1; omega) _
      case measure => simp [intOf]; omega
    · obtain rfl : j = l.length := by omega
      have htk : Is.take l.length = Is := List.take_of_length_le (by rw [hlen.out]; exact Nat.le_refl _)
      have hm := HM.out
      have hk := HK.out
      rw [htk] at hm hk
      obtain ⟨Av, c, r1, r2, r3⟩ := hk.row
      have hll := hk.kids.all.len
      have hnd := hk.kids.nd (by have := H2.out; have := hlen.out; omega) (by have := H4.out; have := hlen.out; omega) (fun I hI => by obtain ⟨c', _, p⟩ := HA.out.mem hI; exact p.2)
      have hndv := hk.kids.node
      have hys : ys.length + 1 = (sumPI Is).n := by have e1 := hk.kids.n; show _ = 1 + (Is.map PI.n).sum; omega
      have hrb : rbC (G ++ (xs ++ ys ++ [⟨h + 1, (Is.map PI.T).flatten, ks⟩])) G.length (G.length + (xs ++ ys).length) = #[.int .u64 0, .int .i64 ((h : Int) + 1), .int .i64 mb, .int .i64 mr, .int .i64 mn] := by
        have hg := last_get G (xs ++ ys) ⟨h + 1, (Is.map PI.T).flatten, ks⟩
        unfold rbC
        rw [if_neg (by omega), htOf_of hg, txt_of hg]
        have e1 : meas (Is.map PI.T).flatten = ⟨mb, mr, mn⟩ := hm.symm
        show #[Value.int .u64 0, Value.int .i64 ((h + 1 : Nat) : Int), Value.int .i64 (meas (Is.map PI.T).flatten).b, Value.int .i64 (meas (Is.map PI.T).flatten).r, Value.int .i64 (meas (Is.map PI.T).flatten).n] = _
        rw [e1]; simp
      have hww := P.out.below.size
      have CP := Lib.hid (put_pen 85 #[.pointer (some ⟨w.heap.size, 0, none⟩), .pointer (some ⟨w.heap.size + 1 + 1, 0, none⟩)] (rb := w.heap.size + 1) (x := ⟨h + 1, (Is.map PI.T).flatten, ks⟩) (fun bb => bb = w.heap.size ∨ bb = w.heap.size + 1 ∨ bb = w.heap.size + 1 + 1 ∨ (Value.slice Av kbs.length c).ownBlock = some bb) hk.pen (by rw [List.length_append]; have := HLE.out; omega) (by rw [List.append_assoc] at *; rw [← List.append_assoc, List.append_assoc]; exact hnd) (by rw [hrb]; exact hk.root) (.inr (.inl rfl)) hk.nr (by
          rintro bb (rfl | rfl | rfl | hg)
          · exact ⟨hww, by omega⟩
          · exact ⟨by omega, by omega⟩
          · exact ⟨by omega, hw3⟩
          · exact ⟨by have := (r2.lt bb hg).1; omega, (r2.lt bb hg).2⟩) (fun jb W'' hkk e1 e2 e3 => by
          refine ⟨.inr (.inr (.inl rfl)), .inr (.inr (.inr (.inr rfl))), .inr (.inr (.inr (.inl rfl))), e1, e2, .inr ⟨h, w.heap.size, w.heap.size + 1 + 1, some ⟨b, off, none⟩, l.length, cap, Av, c, kbs, w.heap.size, .inr (.inl (.inl rfl)), .inr (.inl (.inr (.inr (.inl rfl)))), e3, hkk _ _ _ (.inr (.inl rfl)) (by unfold addS; decide) hk.tree, hkk _ _ _ (.inr (.inr (.inr (.inl rfl)))) (by unfold addS; decide) r1, r2.keepN hkk (fun g hg => .inr (.inr (.inr (.inr hg)))) (by unfold addS; decide), fun g hg => .inr (.inl (.inr (.inr (.inr hg)))), rfl, hk.bx⟩⟩))
      have HNDV := Lib.hid hndv; have HSUB := Lib.hid hk.sub; have HKEEP := Lib.hid hk.keep; have HOUT := Lib.hid hk.out
      have HRL := Lib.hid (fun bb hg => (r2.lt bb hg).1)
      clear hm hk htk r1 r2 r3 hll hnd hndv hys hrb HM HK
      go_wp2_with fail
      refine (CP.out).mono ?_
      rintro e w5 ⟨rfl, jb, N5, hp5, hn5, hk5⟩
      have H5 := Lib.hid hp5; have HN5 := Lib.hid hn5; have HK5 := Lib.hid hk5
      clear hp5 hn5 hk5 CP
      go_wp2_with fail
      go_ret
      have e5 := H5.out
      have hle5 : G.length + (xs ++ ys).length = G.length + xs.length + ys.length := by rw [List.length_append]; omega
      rw [hle5, List.append_assoc] at e5
      refine ⟨w.heap.size + 1, G.length + xs.length + ys.length, ys ++ [⟨h + 1, (Is.map PI.T).flatten, ks⟩], _, _, _, N5, rfl, e5, by simp, fun p q => List.mem_append.2 (.inl (HSUB.out p q)), HNDV.out, HKEEP.out.trans HK5.out (fun g q => HOUT.out g q), fun bb q => ?_⟩
      rcases HN5.out bb q with q | (rfl | rfl | rfl | hg) | q
      · exact HOUT.out bb q
      · exact .inr (Nat.le_refl _)
      · exact .inr (by omega)
      · exact .inr (by omega)
      · exact .inr (HRL.out bb hg)
      · exact .inr (by omega)

theorem padd_any (w0 : World) (A : AF) (G : Ar) (bp : Nat) (hG : ArOK G) : ∀ h, AddSays w0 A G bp h := by
  intro h
  induction h with
  | zero =>
    intro c I xs js rbs bxs N W p q hle hT
    rcases PV.zero'.1 q with q | ⟨e, h1, h16, hK, hn⟩
    · exact add_kept w0 A G bp 0 c I xs js rbs bxs N W p q
    · rw [e]
      exact add_leaf w0 A G bp I xs js rbs bxs N W p h1 h16 hK hn (by omega)
  | succ h ih =>
    intro c I xs js rbs bxs N W p q hle hT
    have h13 := q.ht_le hG hT
    rcases PV.succ.1 q with q | ⟨ap, cap, l, Is, rfl, hsl, -, h2, h4, ha, rfl⟩
    · exact add_kept w0 A G bp (h + 1) c I xs js rbs bxs N W p q
    · exact add_in w0 A G bp h ih ap cap l Is xs js rbs bxs N W p hsl h2 h4 ha (by omega) hle hT

end Go.Proofs.YtclmjnobacepjaaGreat
