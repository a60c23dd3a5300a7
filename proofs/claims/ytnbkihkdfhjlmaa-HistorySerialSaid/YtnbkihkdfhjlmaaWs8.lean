/-
  Texts Dd, De, Df, Dg, Dh, Cr, Di, Fb, Gc, Ek, El, Em, Fc of this proof, joined.
-/
import Derived.Test.YtnbkihkdfhjlmaaWs7
/-
  The contract of the law function HistoryExchanged.
-/
namespace Go.Proofs.Ytnbkihkdfhjlmaa
open Go Go.VC
set_option maxHeartbeats 800000

/-- The place that is taken: it has a neighbour. -/
theorem place (x : Int) {n : Nat} (h2 : 2 ≤ n) (h40 : n ≤ 40) :
    IntKind.wrap .u64 (IntKind.wrap .i64 ((n : Int) - 1)) ≠ 0 ∧ ∃ i : Nat, i + 1 < n ∧ IntKind.wrap .i64 (Int.tmod (IntKind.wrap .u64 x) (IntKind.wrap .u64 (IntKind.wrap .i64 ((n : Int) - 1)))) = i := by
  have e1 : IntKind.wrap .i64 ((n : Int) - 1) = (n : Int) - 1 := wrap64 (by omega) (by omega)
  have e2 : IntKind.wrap .u64 ((n : Int) - 1) = (n : Int) - 1 := by rw [IntKind.wrap_u64]; omega
  rw [e1, e2]
  refine ⟨by omega, ?_⟩
  have h0 : 0 ≤ IntKind.wrap .u64 x := by rw [IntKind.wrap_u64]; omega
  generalize IntKind.wrap .u64 x = u at h0
  have hpos : (0 : Int) < (n : Int) - 1 := by omega
  rw [Int.tmod_eq_emod_of_nonneg h0]
  have h3 := Int.emod_nonneg u (show (n : Int) - 1 ≠ 0 by omega)
  have h4 := Int.emod_lt_of_pos u hpos
  rw [wrap64 (by omega) (by omega)]
  exact ⟨(u % ((n : Int) - 1)).toNat, by omega, by omega⟩

theorem srt_len {E : Int → Int → Bool} : ∀ (n : Nat) (l r : List Int), srt E n l = some r → r.length = n
  | 0, _, r, h => by simp [srt] at h; subst h; rfl
  | n + 1, l, r, h => by
    rw [srt] at h
    split at h
    · cases h
    · obtain ⟨q, hq, rfl⟩ := Option.map_eq_some_iff.1 h
      simp [srt_len n _ q hq]
theorem grow_len {E : Int → Int → Bool} {l : List Int} : ∀ (n : Nat) (c r : List Int), grow E l n c = some r → r.length = c.length + n
  | 0, c, r, h => by
    rw [grow] at h
    split at h
    · cases h; rfl
    · cases h
  | n + 1, c, r, h => by
    rw [grow] at h
    obtain ⟨t, _, ht⟩ := List.exists_of_findSome?_eq_some h
    split at ht
    · have := grow_len n _ r ht
      simp at this; omega
    · cases ht
theorem progO_len (h : List Ev) : ((progO h).getD []).length ≤ big := by
  cases hp : progO h with
  | none => simp
  | some r =>
    have h1 := srt_len _ _ r hp
    have h2 := com_len h
    show r.length ≤ 9223372036854775807
    omega
theorem progC_len (h : List Ev) : ((progC h).getD []).length ≤ big := by
  cases hp : progC h with
  | none => simp
  | some r =>
    obtain ⟨k, hk, h1⟩ := List.exists_of_findSome?_eq_some hp
    obtain ⟨t, _, h2⟩ := List.exists_of_findSome?_eq_some h1
    have h3 := grow_len _ _ _ h2
    have h4 := com_len h
    simp at hk h3
    show r.length ≤ 9223372036854775807
    omega
theorem progV_len (h : List Ev) : ((progV h).getD []).length ≤ big := by
  rw [progV_eq]
  cases hp : refV h with
  | none => simp
  | some r =>
    have h1 := permsN_perm _ _ rfl r (List.mem_of_find?_eq_some hp)
    have h2 := com_len h
    have h3 := h1.length_eq
    show r.length ≤ 9223372036854775807
    omega

theorem two_writes {w : World} {c d : Nat} {z z' : List Value} (hc : Blk w c z 37) (hd : Blk w d z' 37) (hz : z.length = 3) (hz' : z'.length = 3) (hne : c ≠ d) (a b : Ev) :
    StoreOk w c 0 (eO a) 3 ∧ Fr (fun i => i = c) w (put w c 0 (eO a)) ∧ StoreOk (put w c 0 (eO a)) d 0 (eO b) 3 ∧ Fr (fun i => i = d) (put w c 0 (eO a)) (put (put w c 0 (eO a)) d 0 (eO b)) ∧
      Blk (put (put w c 0 (eO a)) d 0 (eO b)) c (eO a) 37 ∧ Blk (put (put w c 0 (eO a)) d 0 (eO b)) d (eO b) 37 := by
  have hf1 : Fr (fun i => i = c) w (put w c 0 (eO a)) := Fr.put ..
  have hd1 := hd.fr hf1 (Ne.symm hne)
  have hc1 := hc.put (o := 0) (vs := eO a)
  rw [show setR z 0 (eO a) = eO a from by simpa using setR_all (vs := eO a) (l := z) (pre := []) (by simp [hz, eO_len])] at hc1
  have hf2 : Fr (fun i => i = d) (put w c 0 (eO a)) (put (put w c 0 (eO a)) d 0 (eO b)) := Fr.put ..
  have hd2 := hd1.put (o := 0) (vs := eO b)
  rw [show setR z' 0 (eO b) = eO b from by simpa using setR_all (vs := eO b) (l := z') (pre := []) (by simp [hz', eO_len])] at hd2
  exact ⟨hc.storeOk rfl (eO_one a) (by simp [hz]), hf1, hd1.storeOk rfl (eO_one b) (by simp [hz']), hf2, hc1.fr hf2 hne, hd2⟩

theorem c4 {w : World} {s : Sl} {h : List Ev} (x1 : Int) (hs : Hs w s h) (hl : h.length ≤ big) :
    Calls Try.prog 4 [.slice s.a s.n s.c, .int .i64 x1].toArray w fun e w' => e = .returned (.bool true) ∧ Ext w w' := by
  refine (call4 s x1 (R := fun v w' => v = .bool true ∧ Ext w w') ?_).mono fun e w' ⟨v, he, hv, hx⟩ => ⟨by rw [he, hv], hx⟩
  have hn := hs.len
  have ht : (h.take 43).length ≤ 100 := by simp; omega
  refine (of_ok hs hl).mono fun e w1 ⟨s22, he, ho22, hx1⟩ => ⟨s22, he, ?_⟩
  refine (c17 ho22.sli ht).mono fun e w2 ⟨s23, x23, he, hc23, hx2⟩ => ⟨s23, x23, he, ?_⟩
  have hx02 := hx1.trans hx2
  refine (of_ok (hs.ext hx02) hl).mono fun e w3 ⟨s28, he, ho28, hx3⟩ => ⟨s28, he, ?_⟩
  refine (c18 ho28.sli ht).mono fun e w4 ⟨s29, x29, he, hc29, hx4⟩ => ⟨s29, x29, he, ?_⟩
  have hx04 := (hx02.trans hx3).trans hx4
  refine (of_ok (hs.ext hx04) hl).mono fun e w5 ⟨s34, he, ho34, hx5⟩ => ⟨s34, he, ?_⟩
  refine (c11 ho34.sli ht).mono fun e w6 ⟨s35, x35, he, hc35, hx6⟩ => ⟨s35, x35, he, ?_⟩
  have hx06 := (hx04.trans hx5).trans hx6
  rw [valid_take] at hc23 hc29 hc35
  have hawake : ∀ w', Ext w w' → Calls Try.prog 14 [].toArray w' fun e w2 => ∃ b : Bool, e = .returned (.bool b) ∧ (Value.bool b = .bool true ∧ Ext w w2) := fun w' hx => (c14 w').mono fun e w2 ⟨he, hx2⟩ => ⟨true, he, rfl, hx.trans hx2⟩
  refine ⟨fun (b : Bool) w' => w' = w6 ∧ (b = false → Valid h ∧ 2 ≤ h.length), ?_, ?_⟩
  rotate_left
  · refine cond_intro (fun _ => ⟨rfl, fun h => by cases h⟩) (fun hc => ⟨rfl, fun hb => ?_⟩)
    have hc : ¬ x23 = 2 := by simpa using hc
    have hb : ¬ (s.n : Int) < 2 := by simpa using hb
    rcases hc23 with ⟨_, _, h2⟩ | ⟨hv, _, _⟩
    · exact absurd h2 hc
    · exact ⟨hv, by omega⟩
  rintro b w7 ⟨rfl, hb⟩
  refine cond_intro (fun _ => hawake _ hx06) (fun hbf => ?_)
  obtain ⟨hv, h2⟩ := hb hbf
  have h40 : h.length ≤ 40 := hv.2
  have hself := valid_self hv
  rw [hself] at hc23 hc29 hc35
  obtain ⟨hne, i, hi, hpl⟩ := place x1 h2 h40
  rw [hn, hpl]
  have hw1 : IntKind.wrap .i64 ((i : Int) + 1) = ((i + 1 : Nat) : Int) := by rw [wrap64 (by omega) (by omega)]; rfl
  rw [hw1]
  refine ⟨hne, ?_⟩
  refine ⟨fun (p11 p12 : Pt) w10 => p11.o = 0 ∧ p12.o = 0 ∧ Blk w10 p11.b (eO h[i]) 37 ∧ Blk w10 p12.b (eO h[i + 1]) 37 ∧ Ext w7 w10, ?_, ?_⟩
  rotate_left
  · -- the two are laid, in either order
    refine ⟨fun u => Ext w7 u, Ext.drew _, Let.intro fun w9 e9 => ?_⟩
    have hx9 : Ext w7 w9 := by rw [e9]; exact Ext.drew _
    have hsu : ∀ u, Ext w7 u → Hs u s h := fun u hu => hs.ext (hx06.trans hu)
    obtain ⟨p, hp, h1, h2', hr⟩ := Sli.at eO_len hs (i := i) (by omega)
    obtain ⟨q, hq, h3, h4, hr'⟩ := Sli.at eO_len hs (i := i + 1) (by omega)
    have hsame : ∀ {p' : Pt}, s.a = some ⟨p'.b, p'.o, none⟩ → p' = p := fun {p'} h => by
      have e : (⟨p'.b, p'.o, none⟩ : Addr) = ⟨p.b, p.o, none⟩ := Option.some.inj (h.symm.trans hp)
      have e1 : p'.b = p.b := congrArg Addr.block e
      have e2 : p'.o = p.o := congrArg Addr.off e
      cases p'; cases p; simp_all
    have hrd : ∀ (k : Nat) (hk : k < h.length) u, Ext w7 u → rd u p.b (p.o + Int.toNat (k : Int) * 3) (eO h[k]) := fun k hk u hu => by
      obtain ⟨p', hp', _, _, hr'⟩ := Sli.at eO_len (hsu u hu) hk
      rw [hsame hp'] at hr'; exact hr'
    refine ⟨p, hp, h1, by omega, h[i].t, h[i].k, h[i].i, fun u hu => hrd i (by omega) u hu, p, hp, by omega, by omega, h[i + 1].t, h[i + 1].k, h[i + 1].i, fun u hu => hrd (i + 1) (by omega) u hu, ?_⟩
    have hz37 : (zc Try.prog 37).toList.length = 3 := by simp [zc37]
    have hA : ∀ w : World, Blk (w.alloc (.cells (zc Try.prog 37) 37)) w.heap.size (zc Try.prog 37).toList 37 := fun w => by simpa using Blk.alloc w (zc Try.prog 37).toList 37
    constructor
    · refine Let.intro fun w25 e25 => ⟨?_, Let.intro fun w26 e26 => ⟨?_, ?_⟩⟩
      · rw [e25]; exact hx9.trans (Ext.alloc ..)
      · rw [e26, e25]; exact (hx9.trans (Ext.alloc ..)).trans (Ext.alloc ..)
      have hx25 : Ext w9 w25 := by rw [e25]; exact Ext.alloc ..
      have hx26 : Ext w25 w26 := by rw [e26]; exact Ext.alloc ..
      have b9 : Blk w25 w9.heap.size (zc Try.prog 37).toList 37 := by rw [e25]; exact hA w9
      have b25 : Blk w26 w25.heap.size (zc Try.prog 37).toList 37 := by rw [e26]; exact hA w25
      have n9 := b9.lt
      have z9 := hx9.size
      obtain ⟨k1, k2, k3, k4, k5, k6⟩ := two_writes (b9.ext hx26) b25 hz37 hz37 (by omega) h[i] h[i + 1]
      have hx26' : Ext w7 w26 := (hx9.trans hx25).trans hx26
      refine ⟨k1, Let.intro fun w27 e27 => ?_⟩
      have hx27 : Ext w7 w27 := by rw [e27]; exact hx26'.newer k2 fun i hi => by omega
      refine ⟨hx27, by rw [e27]; exact k3, Let.intro fun w28 e28 => ⟨rfl, rfl, by rw [e28, e27]; exact k5, by rw [e28, e27]; exact k6, ?_⟩⟩
      rw [e28]; exact hx27.newer (by rw [e27]; exact k4) fun i hi => by omega
    · refine Let.intro fun w25 e25 => ⟨?_, Let.intro fun w26 e26 => ⟨?_, ?_⟩⟩
      · rw [e25]; exact hx9.trans (Ext.alloc ..)
      · rw [e26, e25]; exact (hx9.trans (Ext.alloc ..)).trans (Ext.alloc ..)
      have hx25 : Ext w9 w25 := by rw [e25]; exact Ext.alloc ..
      have hx26 : Ext w25 w26 := by rw [e26]; exact Ext.alloc ..
      have b9 : Blk w25 w9.heap.size (zc Try.prog 37).toList 37 := by rw [e25]; exact hA w9
      have b25 : Blk w26 w25.heap.size (zc Try.prog 37).toList 37 := by rw [e26]; exact hA w25
      have n9 := b9.lt
      have z9 := hx9.size
      obtain ⟨k1, k2, k3, k4, k5, k6⟩ := two_writes b25 (b9.ext hx26) hz37 hz37 (by omega) h[i] h[i + 1]
      have hx26' : Ext w7 w26 := (hx9.trans hx25).trans hx26
      refine ⟨k1, Let.intro fun w27 e27 => ?_⟩
      have hx27 : Ext w7 w27 := by rw [e27]; exact hx26'.newer k2 fun i hi => by omega
      refine ⟨hx27, by rw [e27]; exact k3, Let.intro fun w28 e28 => ⟨rfl, rfl, by rw [e28, e27]; exact k5, by rw [e28, e27]; exact k6, ?_⟩⟩
      rw [e28]; exact hx27.newer (by rw [e27]; exact k4) fun i hi => by omega
  rintro ⟨b11, o11⟩ ⟨b12, o12⟩ w10 ⟨ho1, ho2, hb11, hb12, hx10⟩
  have ho1 : o11 = 0 := ho1
  have ho2 : o12 = 0 := ho2
  subst ho1
  subst ho2
  have hok := hv.1.1
  have hokx := hok h[i] (List.getElem_mem _)
  have hoky := hok h[i + 1] (List.getElem_mem _)
  refine ⟨fun (b : Bool) w11 => w11 = w10 ∧ (b = false → calm h[i] h[i + 1]), ?_, ?_⟩
  rotate_left
  · have htrue : w10 = w10 ∧ (true = false → calm h[i] h[i + 1]) := ⟨rfl, fun h => by cases h⟩
    refine ⟨_, hb11.cell 0, _, hb12.cell 0, cond_intro (fun _ => htrue) (fun c1 => ?_)⟩
    refine ⟨_, hb11.cell 1, cond_intro (fun _ => htrue) (fun c2 => ?_)⟩
    refine ⟨_, hb12.cell 1, cond_intro (fun _ => htrue) (fun c3 => ?_)⟩
    simp at c1 c2 c3
    unfold okOp at hokx hoky
    refine ⟨_, hb11.cell 2, _, hb12.cell 2, cond_intro (fun c4 => ?_) (fun c4 => ?_)⟩
    · simp at c4
      refine ⟨_, hb11.cell 1, _, hb12.cell 1, rfl, fun hb => ?_⟩
      rw [wrap64 (by omega) (by omega)] at hb
      simp at hb
      exact ⟨c1, by omega, by omega, by omega, by omega, by omega⟩
    · simp at c4
      exact ⟨rfl, fun _ => ⟨c1, by omega, by omega, by omega, by omega, fun e => c4 e.1⟩⟩
  rintro b w11 ⟨rfl, hb⟩
  have hx011 := hx06.trans hx10
  refine cond_intro (fun _ => hawake _ hx011) (fun hbf2 => ?_)
  have hcalm := hb hbf2
  rw [← hn]
  refine (of_ok (hs.ext hx011) hl).mono fun e w13 ⟨s95, he, ho95, hx13⟩ => ⟨s95, he, Let.intro fun w14 e14 => ?_⟩
  have hx14 : Ext w13 w14 := by rw [e14]; exact Ext.drew _
  rw [hself] at ho95
  have ho14 := ho95.ext hx14
  obtain ⟨p, hp, h1, h3, hr⟩ := Sli.at eO_len ho14.sli (i := i + 1) hi
  obtain ⟨q, hq, h4, h5, hr'⟩ := Sli.at eO_len ho14.sli (i := i) (by omega)
  obtain ⟨p2, hp2, h6, h7, hst1, ho15, hf15⟩ := ho14.storeN eO_len eO_one (i := i) (by omega) h[i + 1]
  refine ⟨p, hp, h1, h3, h[i + 1].t, h[i + 1].k, h[i + 1].i, hr, q, hq, h4, h5, h[i].t, h[i].k, h[i].i, hr', p2, hp2, h6, h7, hst1, Let.intro fun w15 e15 => ?_⟩
  have ho15 : Own 38 3 eO w11.heap.size w15 s95 (h.set i h[i + 1]) := by rw [e15]; exact ho15
  have hf15 : Fr (Bl s95) w14 w15 := by rw [e15]; exact hf15
  obtain ⟨p3, hp3, h8, h9, hst2, ho16, hf16⟩ := ho15.storeN eO_len eO_one (i := i + 1) (by simpa using hi) h[i]
  refine ⟨p3, hp3, h8, h9, hst2, Let.intro fun w16 e16 => ?_⟩
  have ho16 : Own 38 3 eO w11.heap.size w16 s95 (exch h i hi) := by rw [e16]; exact ho16
  have hf16 : Fr (Bl s95) w15 w16 := by rw [e16]; exact hf16
  have hx1416 : Ext w11 w16 := ((hx13.trans hx14).newer hf15 fun b ⟨a, ha, hb⟩ => by have := (ho95.base ha).1; omega).newer hf16 fun b ⟨a, ha, hb⟩ => by have := (ho95.base ha).1; omega
  have hx016 := hx011.trans hx1416
  have hle : (exch h i hi).length ≤ 100 := by unfold exch; simp; omega
  have hsw := split_two hi
  have hv2 : Valid (h.take i ++ h[i] :: h[i + 1] :: h.drop (i + 2)) := by rw [← hsw]; exact hv
  obtain ⟨g1, g2, g3⟩ := prog_swap hcalm hv2
  have hve := valid_swap hcalm hv2
  rw [← exch_eq hi] at hve g1 g2 g3
  rw [← hsw] at g1 g2 g3
  refine (c17 ho16.sli hle).mono fun e w17 ⟨s114, x114, he, hc114, hx17⟩ => ⟨s114, x114, he, ?_⟩
  refine (c18 (ho16.sli.ext hx17) hle).mono fun e w18 ⟨s119, x119, he, hc119, hx18⟩ => ⟨s119, x119, he, ?_⟩
  refine (c11 ((ho16.sli.ext hx17).ext hx18) hle).mono fun e w19 ⟨s124, x124, he, hc124, hx19⟩ => ⟨s124, x124, he, ?_⟩
  rcases hc114 with ⟨hno, _⟩ | ⟨_, hi114, hx114⟩
  · exact absurd hve hno
  rcases hc119 with ⟨hno, _⟩ | ⟨_, hi119, hx119⟩
  · exact absurd hve hno
  rcases hc124 with ⟨hno, _⟩ | ⟨_, hi124, hx124⟩
  · exact absurd hve hno
  rcases hc23 with ⟨hno, _⟩ | ⟨_, hi23, hx23⟩
  · exact absurd hv hno
  rcases hc29 with ⟨hno, _⟩ | ⟨_, hi29, hx29⟩
  · exact absurd hv hno
  rcases hc35 with ⟨hno, _⟩ | ⟨_, hi35, hx35⟩
  · exact absurd hv hno
  rw [← g1] at hi114 hx114
  rw [← g2] at hi119 hx119
  rw [← g3] at hi124 hx124
  have hx26 : Ext w2 w19 := ((((((hx3.trans hx4).trans hx5).trans hx6).trans hx10).trans hx1416).trans hx17).trans (hx18.trans hx19)
  refine Join.dir ?_
  refine (c16 (hi23.ext hx26) (hi114.ext (hx18.trans hx19)) (progO_len h)).mono fun e w21 ⟨he, hx21⟩ => ⟨_, he, cond_intro (fun _ => cond_intro (fun _ => ?_) (fun hc => ?_)) (fun hc => ?_)⟩
  · have hx419 : Ext w4 w19 := ((((hx5.trans hx6).trans hx10).trans hx1416).trans hx17).trans (hx18.trans hx19)
    refine (c16 (hi29.ext (hx419.trans hx21)) (hi119.ext (hx19.trans hx21)) (progC_len h)).mono fun e w22 ⟨he, hx22⟩ => ⟨_, he, cond_intro (fun _ => cond_intro (fun _ => ?_) (fun hc => ?_)) (fun hc => ?_)⟩
    · have hx619 : Ext w7 w19 := ((hx10.trans hx1416).trans hx17).trans (hx18.trans hx19)
      refine (c16 (hi35.ext ((hx619.trans hx21).trans hx22)) (hi124.ext (hx21.trans hx22)) (progV_len h)).mono fun e w23 ⟨he, hx23'⟩ => ⟨_, he, cond_intro (fun _ => cond_intro (fun _ => ?_) (fun hc => ?_)) (fun hc => ?_)⟩
      · exact hawake _ ((((((hx016.trans hx17).trans hx18).trans hx19).trans hx21).trans hx22).trans hx23')
      · simp [hx35, hx124] at hc
      · simp at hc
    · simp [hx29, hx119] at hc
    · simp at hc
  · simp [hx23, hx114] at hc
  · simp at hc
end Go.Proofs.Ytnbkihkdfhjlmaa
/-
  Plain laws of Order and Cycle: an order that agrees with the edges, or a cycle.
-/
namespace Go.Proofs.Ytnbkihkdfhjlmaa
open Go Go.VC
set_option maxHeartbeats 400000

theorem ixf_spec {P : Int → Bool} : ∀ {l : List Int} {k : Nat}, ixf P l = k → ∃ x, l[k]? = some x ∧ P x = true
  | [], k, h => by rw [ixf] at h; omega
  | y :: r, k, h => by
    rw [ixf] at h
    by_cases hp : P y = true
    · rw [if_pos hp] at h
      have : k = 0 := by omega
      subst this
      exact ⟨y, rfl, hp⟩
    · rw [if_neg hp] at h
      split at h
      · omega
      · obtain ⟨m, rfl⟩ : ∃ m, k = m + 1 := ⟨k - 1, by omega⟩
        obtain ⟨x, hx, hpx⟩ := ixf_spec (P := P) (l := r) (k := m) (by omega)
        exact ⟨x, by simpa using hx, hpx⟩
/-- What srt returns: an order of all, each ahead of what it has to be ahead of. -/
theorem srt_some {E : Int → Int → Bool} : ∀ (n : Nat) (l r : List Int), l.length = n → srt E n l = some r → r.Perm l ∧ r.Pairwise (fun a b => E b a = false)
  | 0, l, r, hl, h => by
    simp [srt] at h; subst h
    rw [List.eq_nil_of_length_eq_zero hl]; exact ⟨.refl _, List.Pairwise.nil⟩
  | n + 1, l, r, hl, h => by
    rw [srt] at h
    by_cases hneg : ixf (free E l) l < 0
    · rw [if_pos hneg] at h; cases h
    · rw [if_neg hneg] at h
      obtain ⟨q, hq, rfl⟩ := Option.map_eq_some_iff.1 h
      obtain ⟨x, hx, hp⟩ := ixf_spec (P := free E l) (l := l) (k := (ixf (free E l) l).toNat) (by omega)
      obtain ⟨hk, he⟩ := List.getElem?_eq_some_iff.1 hx
      have hlen : (l.eraseIdx (ixf (free E l) l).toNat).length = n := by rw [List.length_eraseIdx, if_pos hk]; omega
      obtain ⟨h1, h2⟩ := srt_some n _ q hlen hq
      have hgd : l.getD (ixf (free E l) l).toNat 0 = x := by simp [List.getD, hx]
      rw [hgd]
      have hperm : (x :: l.eraseIdx (ixf (free E l) l).toNat).Perm l := by
        have e : l = l.take (ixf (free E l) l).toNat ++ x :: l.drop ((ixf (free E l) l).toNat + 1) := by rw [← he, ← List.drop_eq_getElem_cons hk, List.take_append_drop]
        rw [List.eraseIdx_eq_take_drop_succ]
        exact List.perm_middle.symm.trans (List.Perm.of_eq e.symm)
      refine ⟨(List.Perm.cons _ h1).trans hperm, List.pairwise_cons.2 ⟨fun b hb => ?_, h2⟩⟩
      have hbl : b ∈ l := hperm.mem_iff.1 (List.mem_cons_of_mem _ (h1.mem_iff.1 hb))
      unfold free at hp
      simp only [Bool.not_eq_true', List.any_eq_false] at hp
      exact Bool.eq_false_iff.2 (hp b hbl)
/-- If it returns none, some of them each have one of them ahead. -/
theorem srt_none {E : Int → Int → Bool} : ∀ (n : Nat) (l : List Int), l.length = n → srt E n l = none → ∃ m : List Int, m ≠ [] ∧ (∀ x ∈ m, x ∈ l) ∧ ∀ b ∈ m, ∃ a ∈ m, E a b = true
  | 0, l, _, h => by simp [srt] at h
  | n + 1, l, hl, h => by
    rw [srt] at h
    by_cases hneg : ixf (free E l) l < 0
    · refine ⟨l, by rintro rfl; simp at hl, fun _ h => h, fun b hb => ?_⟩
      have h1 : decide (ixf (free E l) l ≥ 0) = false := by simp; omega
      rw [ixf_nonneg, List.any_eq_false] at h1
      have := h1 b hb
      unfold free at this
      simp only [Bool.not_eq_true', Bool.not_eq_false, List.any_eq_true] at this
      obtain ⟨a, ha, he⟩ := this
      exact ⟨a, ha, he⟩
    · rw [if_neg hneg] at h
      have hq := Option.map_eq_none_iff.1 h
      obtain ⟨x, hx, hp⟩ := ixf_spec (P := free E l) (l := l) (k := (ixf (free E l) l).toNat) (by omega)
      obtain ⟨hk, he⟩ := List.getElem?_eq_some_iff.1 hx
      have hlen : (l.eraseIdx (ixf (free E l) l).toNat).length = n := by rw [List.length_eraseIdx, if_pos hk]; omega
      obtain ⟨m, h1, h2, h3⟩ := srt_none n _ hlen hq
      exact ⟨m, h1, fun x hx => List.mem_of_mem_eraseIdx (h2 x hx), h3⟩
end Go.Proofs.Ytnbkihkdfhjlmaa
/-
  Plain laws of Cycle: what it returns is a cycle; there is none beside an order.
-/
namespace Go.Proofs.Ytnbkihkdfhjlmaa
open Go Go.VC
set_option maxHeartbeats 400000

/-- Each is ahead of the next. -/
def Path (E : Int → Int → Bool) : List Int → Prop
  | [] => True
  | [_] => True
  | a :: b :: r => E a b = true ∧ Path E (b :: r)
theorem Path.snoc {E : Int → Int → Bool} {t : Int} : ∀ {c : List Int}, Path E c → (c ≠ [] → E (c.getLast?.getD 0) t = true) → Path E (c ++ [t])
  | [], _, _ => trivial
  | [a], _, h => ⟨by simpa using h (by simp), trivial⟩
  | a :: b :: r, hp, h => by
    refine ⟨hp.1, ?_⟩
    have := Path.snoc (c := b :: r) (t := t) hp.2 (fun _ => by simpa using h (by simp))
    exact this
/-- What grow returns. -/
theorem grow_some {E : Int → Int → Bool} {l : List Int} : ∀ (n : Nat) (c r : List Int), c ≠ [] → c.Nodup → (∀ x ∈ c, x ∈ l) → Path E c → grow E l n c = some r →
    r ≠ [] ∧ r.Nodup ∧ (∀ x ∈ r, x ∈ l) ∧ Path E r ∧ E (r.getLast?.getD 0) (r.head?.getD 0) = true
  | 0, c, r, h0, h1, h2, h3, h => by
    rw [grow] at h
    split at h
    · rename_i he
      cases h; exact ⟨h0, h1, h2, h3, he⟩
    · cases h
  | n + 1, c, r, h0, h1, h2, h3, h => by
    rw [grow] at h
    obtain ⟨t, ht, hg⟩ := List.exists_of_findSome?_eq_some h
    split at hg
    · rename_i he
      simp only [Bool.and_eq_true, Bool.not_eq_true', decide_eq_false_iff_not] at he
      refine grow_some n (c ++ [t]) r (by simp) ?_ ?_ (h3.snoc fun _ => he.2) hg
      · rw [List.nodup_append]; exact ⟨h1, by simp, by intro a ha b hb e; simp at hb; subst hb; subst e; exact he.1 ha⟩
      · intro x hx
        rcases List.mem_append.1 hx with hx | hx
        · exact h2 x hx
        · simp at hx; subst hx; exact ht
    · cases hg
theorem cyc_some {E : Int → Int → Bool} {l r : List Int} (h : cyc E l = some r) : 2 ≤ r.length ∧ r.Nodup ∧ (∀ x ∈ r, x ∈ l) ∧ Path E r ∧ E (r.getLast?.getD 0) (r.head?.getD 0) = true := by
  obtain ⟨k, hk, h1⟩ := List.exists_of_findSome?_eq_some h
  obtain ⟨t, ht, h2⟩ := List.exists_of_findSome?_eq_some h1
  have h3 := grow_len _ _ _ h2
  obtain ⟨_, a, b, c, d⟩ := grow_some (k + 1) [t] r (by simp) (by simp) (by intro x hx; simp at hx; subst hx; exact ht) trivial h2
  exact ⟨by simp at h3; omega, a, b, c, d⟩
theorem path_mono {E : Int → Int → Bool} {f : Int → Nat} {l : List Int} (hf : ∀ a ∈ l, ∀ b ∈ l, E a b = true → f a < f b) : ∀ {r : List Int}, r ≠ [] → (∀ x ∈ r, x ∈ l) → Path E r → f (r.head?.getD 0) ≤ f (r.getLast?.getD 0)
  | [], h, _, _ => absurd rfl h
  | [a], _, _, _ => by simp
  | a :: b :: r, _, hl, hp => by
    have h1 := hf a (hl a (by simp)) b (hl b (by simp)) hp.1
    have h2 := path_mono hf (r := b :: r) (by simp) (fun x hx => hl x (by simp [hx])) hp.2
    simp only [List.head?_cons, Option.getD_some, List.getLast?_cons_cons] at h2 ⊢
    omega
/-- Beside an order that agrees with the edges there is no cycle. -/
theorem no_cycle {E : Int → Int → Bool} (hirr : ∀ a, E a a = false) {l r : List Int} (hp : r.Perm l) (ht : r.Pairwise fun a b => E b a = false) : cyc E l = none := by
  cases hc : cyc E l with
  | none => rfl
  | some c =>
    obtain ⟨h1, _, h3, h4, h5⟩ := cyc_some hc
    have hne : c ≠ [] := by rintro rfl; simp at h1
    have hf : ∀ a ∈ l, ∀ b ∈ l, E a b = true → r.idxOf a < r.idxOf b := by
      intro a ha b hb he
      have ha' := hp.mem_iff.2 ha
      have hb' := hp.mem_iff.2 hb
      have ia := List.idxOf_lt_length_of_mem ha'
      have ib := List.idxOf_lt_length_of_mem hb'
      have ga : r[r.idxOf a] = a := List.getElem_idxOf ia
      have gb : r[r.idxOf b] = b := List.getElem_idxOf ib
      rcases Nat.lt_trichotomy (r.idxOf a) (r.idxOf b) with h | h | h
      · exact h
      · have : a = b := by rw [← ga, ← gb]; simp only [h]
        subst this; rw [hirr] at he; cases he
      · have := List.pairwise_iff_getElem.1 ht _ _ ib ia h
        rw [ga, gb, he] at this; cases this
    have hm := path_mono hf hne h3 h4
    have hlast : c.getLast?.getD 0 ∈ c := by rw [List.getLast?_eq_some_getLast hne]; exact List.getLast_mem hne
    have hhead : c.head?.getD 0 ∈ c := by rw [List.head?_eq_some_head hne]; exact List.head_mem hne
    have := hf _ (h3 _ hlast) _ (h3 _ hhead) h5
    omega
theorem conf_irr {p : List Ev} (a : Int) : conf p a a = false := by
  rw [Bool.eq_false_iff]
  intro h
  obtain ⟨i, j, hi, hj, _, h1, h2, h3⟩ := conf_iff.1 h
  unfold cfl at h1
  simp [h2, h3] at h1
end Go.Proofs.Ytnbkihkdfhjlmaa
/-
  Plain laws of Cycle: where no order agrees with the edges it finds a cycle.
-/
namespace Go.Proofs.Ytnbkihkdfhjlmaa
open Go Go.VC
set_option maxHeartbeats 400000

theorem Path.take {E : Int → Int → Bool} : ∀ {p : List Int} (k : Nat), Path E p → Path E (p.take k)
  | [], k, _ => by simp [Path]
  | [a], 0, _ => trivial
  | [a], k + 1, _ => by simp [Path]
  | a :: b :: r, 0, _ => trivial
  | a :: b :: r, 1, _ => trivial
  | a :: b :: r, k + 2, h => ⟨h.1, Path.take (p := b :: r) (k + 1) h.2⟩
theorem Path.cons {E : Int → Int → Bool} {a : Int} : ∀ {p : List Int}, Path E p → (p ≠ [] → E a (p.head?.getD 0) = true) → Path E (a :: p)
  | [], _, _ => trivial
  | b :: r, hp, h => ⟨by simpa using h (by simp), hp⟩
theorem exists_cycle {E : Int → Int → Bool} {m : List Int} (hm : ∀ b ∈ m, ∃ a ∈ m, E a b = true) :
    ∀ (n : Nat) (p : List Int), p ≠ [] → p.Nodup → (∀ x ∈ p, x ∈ m) → Path E p → m.length + 1 ≤ p.length + n →
      ∃ c : List Int, c ≠ [] ∧ c.Nodup ∧ (∀ x ∈ c, x ∈ m) ∧ Path E c ∧ E (c.getLast?.getD 0) (c.head?.getD 0) = true
  | 0, p, _, hn, hs, _, hl => by
    have := hn.length_le_of_subset (l₂ := m) hs
    omega
  | n + 1, p, h0, hn, hs, hp, hl => by
    obtain ⟨b, r, rfl⟩ : ∃ b r, p = b :: r := by
      cases p with
      | nil => exact absurd rfl h0
      | cons b r => exact ⟨b, r, rfl⟩
    obtain ⟨a, ha, he⟩ := hm b (hs b (by simp))
    by_cases hin : a ∈ b :: r
    · obtain ⟨i, hi, e⟩ := List.getElem_of_mem hin
      refine ⟨(b :: r).take (i + 1), by simp, hn.sublist (List.take_sublist ..), fun x hx => hs x (List.mem_of_mem_take hx), hp.take (i + 1), ?_⟩
      rw [List.getLast?_eq_getElem?, List.length_take, Nat.min_eq_left (by omega)]
      simp only [Nat.add_sub_cancel, List.take_succ_cons, List.head?_cons, Option.getD_some]
      rw [show (b :: r.take i)[i]? = ((b :: r).take (i + 1))[i]? from rfl, List.getElem?_take, if_pos (by omega), List.getElem?_eq_getElem hi, e]
      exact he
    · exact exists_cycle hm n (a :: b :: r) (by simp) (List.nodup_cons.2 ⟨hin, hn⟩) (fun x hx => by rcases List.mem_cons.1 hx with rfl | hx; exact ha; exact hs x hx) ⟨he, hp⟩ (by simp at hl ⊢; omega)
/-- The search finds a cycle that is there. -/
theorem grow_finds {E : Int → Int → Bool} {l : List Int} : ∀ (rest c : List Int), c ≠ [] → (c ++ rest).Nodup → (∀ x ∈ rest, x ∈ l) → Path E (c ++ rest) → E ((c ++ rest).getLast?.getD 0) ((c ++ rest).head?.getD 0) = true → (grow E l rest.length c).isSome = true
  | [], c, _, _, _, _, he => by
    rw [List.append_nil] at he
    rw [List.length_nil, grow, if_pos he]; rfl
  | t :: r, c, h0, hn, hs, hp, he => by
    rw [List.length_cons, grow, List.findSome?_isSome_iff]
    refine ⟨t, hs t (by simp), ?_⟩
    have hnt : t ∉ c := fun h => (List.nodup_append.1 hn).2.2 t h t (by simp) rfl
    have hedge : E (c.getLast?.getD 0) t = true := by
      clear he hn hs hnt
      induction c with
      | nil => exact absurd rfl h0
      | cons a c' ih =>
        cases c' with
        | nil => exact hp.1
        | cons b c'' =>
          have := ih (by simp) hp.2
          simpa using this
    rw [if_pos (by simp [hnt, hedge])]
    have e : c ++ t :: r = (c ++ [t]) ++ r := by simp
    rw [e] at hn hp he
    exact grow_finds r (c ++ [t]) (by simp) hn (fun x hx => hs x (by simp [hx])) hp he
theorem cyc_finds {E : Int → Int → Bool} (hirr : ∀ a, E a a = false) {l : List Int} (h : srt E l.length l = none) : (cyc E l).isSome = true := by
  obtain ⟨m, h0, hs, hm⟩ := srt_none _ l rfl h
  obtain ⟨b, hb⟩ := List.exists_mem_of_ne_nil m h0
  obtain ⟨c, c0, c1, c2, c3, c4⟩ := exists_cycle hm m.length [b] (by simp) (by simp) (by intro x hx; simp at hx; subst hx; exact hb) trivial (by simp; omega)
  obtain ⟨t, r, rfl⟩ : ∃ t r, c = t :: r := by
    cases c with
    | nil => exact absurd rfl c0
    | cons t r => exact ⟨t, r, rfl⟩
  have hr : r ≠ [] := by
    rintro rfl
    simp [hirr] at c4
  have hlen := c1.length_le_of_subset (l₂ := l) fun x hx => hs x (c2 x hx)
  have hrl : 0 < r.length := List.length_pos_iff.2 hr
  unfold cyc
  rw [List.findSome?_isSome_iff]
  refine ⟨r.length - 1, by simp at hlen ⊢; omega, ?_⟩
  rw [List.findSome?_isSome_iff]
  refine ⟨t, hs t (c2 t (by simp)), ?_⟩
  rw [show r.length - 1 + 1 = r.length from by omega]
  exact grow_finds r [t] (by simp) c1 (fun x hx => hs x (c2 x (by simp [hx]))) c3 c4
end Go.Proofs.Ytnbkihkdfhjlmaa
/-
  Plain law: an order that agrees with all conflicts is view equivalent.
-/
namespace Go.Proofs.Ytnbkihkdfhjlmaa
open Go Go.VC
set_option maxHeartbeats 400000

/-- Two lists of operations that nobody can tell apart by reading. -/
def Eqv (p q : List Ev) : Prop := (∀ t σ, ems t σ p = ems t σ q) ∧ ∀ σ, stf σ p = stf σ q
theorem Eqv.refl (p : List Ev) : Eqv p p := ⟨fun _ _ => rfl, fun _ => rfl⟩
theorem Eqv.trans {p q r : List Ev} (h : Eqv p q) (k : Eqv q r) : Eqv p r := ⟨fun t σ => (h.1 t σ).trans (k.1 t σ), fun σ => (h.2 σ).trans (k.2 σ)⟩
theorem Eqv.cons {p q : List Ev} (o : Ev) (h : Eqv p q) : Eqv (o :: p) (o :: q) := ⟨fun t σ => by simp only [ems]; rw [h.1], fun σ => by simp only [stf]; rw [h.2]⟩
/-- Kinds of a valid history. -/
def okK (o : Ev) : Prop := 0 ≤ o.k
theorem cfl_false {x y : Ev} (ht : x.t ≠ y.t) (h : cfl x y = false) : ¬ (x.i = y.i ∧ (if y.k > x.k then y.k else x.k) = 1) := by
  rintro ⟨h1, h2⟩
  unfold cfl at h
  rw [h2] at h
  simp [ht, h1] at h
theorem Eqv.swap {x y : Ev} (hx0 : okK x) (hy0 : okK y) (ht : x.t ≠ y.t) (h : cfl x y = false) (q : List Ev) : Eqv (x :: y :: q) (y :: x :: q) := by
  have h6 := cfl_false ht h
  unfold okK at hx0 hy0
  have hst : ∀ σ : Int → Int, (if y.k = 1 then upd (if x.k = 1 then upd σ x.i x.t else σ) y.i y.t else (if x.k = 1 then upd σ x.i x.t else σ)) = (if x.k = 1 then upd (if y.k = 1 then upd σ y.i y.t else σ) x.i x.t else (if y.k = 1 then upd σ y.i y.t else σ)) := by
    intro σ
    by_cases hx : x.k = 1 <;> by_cases hy : y.k = 1 <;> simp only [hx, hy, if_true, if_false]
    exact upd_comm fun e => h6 ⟨e, by simp [hx, hy]⟩
  refine ⟨fun t σ => ?_, fun σ => ?_⟩
  · simp only [ems]
    rw [hst σ, ← List.append_assoc, ← List.append_assoc]
    congr 1
    have e1 : x.k = 1 → y.t = t ∧ y.k = 0 → upd σ x.i x.t y.i = σ y.i := fun hx hy => by
      unfold upd; rw [if_neg]; intro e; exact h6 ⟨e.symm, by simp [hx, hy.2]⟩
    have e2 : y.k = 1 → x.t = t ∧ x.k = 0 → upd σ y.i y.t x.i = σ x.i := fun hy hx => by
      unfold upd; rw [if_neg]; intro e; exact h6 ⟨e, by simp [hy, hx.2]⟩
    by_cases hx : x.t = t ∧ x.k = 0
    · have hy : ¬ (y.t = t ∧ y.k = 0) := fun hy => ht (hx.1.trans hy.1.symm)
      rw [if_pos hx, if_neg hy, if_neg hy, if_pos hx]
      by_cases hk : y.k = 1
      · rw [if_pos hk, e2 hk hx]; simp
      · rw [if_neg hk]; simp
    · by_cases hy : y.t = t ∧ y.k = 0
      · rw [if_neg hx, if_pos hy, if_pos hy, if_neg hx]
        by_cases hk : x.k = 1
        · rw [if_pos hk, e1 hk hy]; simp
        · rw [if_neg hk]; simp
      · rw [if_neg hx, if_neg hy, if_neg hy, if_neg hx]
  · simp only [stf]
    rw [hst σ]
/-- An operation moved over others that it does not clash with. -/
theorem Eqv.move {x : Ev} (hx0 : okK x) : ∀ (p q : List Ev), (∀ y ∈ p, okK y ∧ x.t ≠ y.t ∧ cfl x y = false) → Eqv (x :: (p ++ q)) (p ++ x :: q)
  | [], q, _ => Eqv.refl _
  | y :: p, q, h => by
    obtain ⟨h1, h2, h3⟩ := h y (by simp)
    exact (Eqv.swap hx0 h1 h2 h3 (p ++ q)).trans ((Eqv.move hx0 p q fun z hz => h z (by simp [hz])).cons y)
/-- The histories, transaction by transaction, of one operation more. -/
theorem serial_cons {x : Ev} {q : List Ev} : ∀ (a b : List Int), x.t ∉ a → x.t ∉ b → serial (x :: q) (a ++ x.t :: b) = serial q a ++ x :: serial q (x.t :: b)
  | a, b, ha, hb => by
    have hno : ∀ l : List Int, x.t ∉ l → serial (x :: q) l = serial q l := fun l hl => by
      unfold serial
      induction l with
      | nil => rfl
      | cons u r ih =>
        rw [List.flatMap_cons, List.flatMap_cons, ih (fun h => hl (by simp [h])), List.filter_cons, if_neg (by simp; intro e; exact hl (by simp [e]))]
    have hsplit : ∀ (h : List Ev) (l m : List Int), serial h (l ++ m) = serial h l ++ serial h m := fun h l m => by unfold serial; rw [List.flatMap_append]
    rw [hsplit, hno a ha]
    congr 1
    have h1 : ∀ (h : List Ev) (u : Int) (m : List Int), serial h (u :: m) = (h.filter fun o => decide (o.t = u)) ++ serial h m := fun h u m => by unfold serial; rw [List.flatMap_cons]
    rw [h1, h1, hno b hb, List.filter_cons, if_pos (by simp)]
    rfl
/-- An order that agrees with all conflicts. -/
theorem serial_eqv : ∀ (q : List Ev) (r : List Int), (∀ o ∈ q, okK o ∧ o.t ∈ r) → r.Nodup → (r.Pairwise fun a b => conf q b a = false) → Eqv q (serial q r)
  | [], r, _, _, _ => by
    have : serial [] r = [] := by unfold serial; simp
    rw [this]; exact Eqv.refl _
  | x :: q, r, hr, hn, hp => by
    have hx := hr x (by simp)
    obtain ⟨a, b, rfl⟩ := List.append_of_mem hx.2
    have hna : x.t ∉ a := fun h => (List.nodup_append.1 hn).2.2 _ h _ (by simp) rfl
    have hnb : x.t ∉ b := (List.nodup_cons.1 (List.nodup_append.1 hn).2.1).1
    have hsub : ∀ u v, conf (x :: q) u v = false → conf q u v = false := fun u v h => by
      rw [Bool.eq_false_iff] at h ⊢
      intro h2
      exact h (conf_confR.2 (.inr (conf_confR.1 h2)))
    have ih := serial_eqv q (a ++ x.t :: b) (fun o ho => hr o (by simp [ho])) hn (hp.imp fun h => hsub _ _ h)
    rw [serial_cons a b hna hnb]
    refine (ih.cons x).trans ?_
    have hs : serial q (a ++ x.t :: b) = serial q a ++ serial q (x.t :: b) := by unfold serial; rw [List.flatMap_append]
    rw [hs]
    refine Eqv.move hx.1 _ _ fun y hy => ?_
    obtain ⟨u, hu, hy2⟩ := List.mem_flatMap.1 hy
    obtain ⟨hyq, hyt⟩ := List.mem_filter.1 hy2
    have hyt : y.t = u := by simpa using hyt
    refine ⟨(hr y (by simp [hyq])).1, fun e => hna (by rw [e, hyt]; exact hu), ?_⟩
    have hpu := (List.pairwise_append.1 hp).2.2 u hu x.t (by simp)
    cases hc : cfl x y with
    | false => rfl
    | true =>
      have : conf (x :: q) x.t u = true := conf_confR.2 (.inl ⟨y, hyq, hc, rfl, hyt⟩)
      rw [this] at hpu; cases hpu
end Go.Proofs.Ytnbkihkdfhjlmaa
/-
  Contract: slices.Compare of ints.
-/
namespace Go.Proofs.Ytnbkihkdfhjlmaa
open Go Go.VC
set_option maxHeartbeats 400000

def cmpI (x y : Int) : Int := if x < y then -1 else if x > y then 1 else 0
def cmpL : List Int → List Int → Int
  | [], [] => 0
  | [], _ :: _ => -1
  | _ :: _, [] => 1
  | a :: r, b :: s => if cmpI a b ≠ 0 then cmpI a b else cmpL r s
theorem c53 (x y : Int) (w : World) : Calls Try.prog 53 [.int .i64 x, .int .i64 y].toArray w fun e w' => e = .returned (.int .i64 (cmpI x y)) ∧ w' = w := by
  have c83 : ∀ (x : Int) (w : World), Calls Try.prog 83 [.int .i64 x].toArray w fun e w' => e = .returned (.bool false) ∧ w' = w := fun x w => by
    refine (call83 x (R := fun v w' => v = .bool false ∧ w' = w) ?_).mono fun e w' ⟨v, he, hv, hx⟩ => ⟨by rw [he, hv], hx⟩
    exact ⟨by simp, rfl⟩
  refine (call53 x y (R := fun v w' => v = .int .i64 (cmpI x y) ∧ w' = w) ?_).mono fun e w' ⟨v, he, hv, hx⟩ => ⟨by rw [he, hv], hx⟩
  refine (c83 x w).mono fun e w1 ⟨he, h1⟩ => ⟨_, he, (c83 y w1).mono fun e w2 ⟨he, h2⟩ => ⟨_, he, ?_⟩⟩
  subst h1
  subst h2
  refine cond_intro (fun h => by cases h) (fun _ => cond_intro (fun h => by cases h) (fun _ => cond_intro (fun h => ⟨?_, rfl⟩) (fun h => cond_intro (fun h' => ⟨?_, rfl⟩) (fun h' => ⟨?_, rfl⟩))))
  · have h : x < y := by simpa using h
    rw [cmpI, if_pos h]
  · have h : ¬ x < y := by simpa using h
    have h' : x > y := by simpa using h'
    rw [cmpI, if_neg h, if_pos h']
  · have h : ¬ x < y := by simpa using h
    have h' : ¬ x > y := by simpa using h'
    rw [cmpI, if_neg h, if_neg h']
theorem cmpL_take : ∀ {l l' : List Int} {i : Nat}, l.take i = l'.take i → i ≤ l.length → i ≤ l'.length → cmpL l l' = cmpL (l.drop i) (l'.drop i)
  | _, _, 0, _, _, _ => by simp
  | [], _, i + 1, _, h, _ => by simp at h
  | _ :: _, [], i + 1, _, _, h => by simp at h
  | a :: r, b :: s, i + 1, h, h1, h2 => by
    simp only [List.take_succ_cons, List.cons.injEq] at h
    obtain ⟨rfl, h⟩ := h
    have := cmpL_take (l := r) (l' := s) h (by simpa using h1) (by simpa using h2)
    simp only [List.drop_succ_cons]
    rw [← this, cmpL, if_neg (by simp [cmpI])]
theorem c24 {w : World} {s s' : Sl} {l l' : List Int} (hs : Ints w s l) (hs' : Ints w s' l') (hl : l.length ≤ big) :
    Calls Try.prog 24 [.slice s.a s.n s.c, .slice s'.a s'.n s'.c].toArray w fun e w' => e = .returned (.int .i64 (cmpL l l')) ∧ Ext w w' := by
  refine (call24 s s' (R := fun v w' => v = .int .i64 (cmpL l l') ∧ Ext w w') ?_).mono fun e w' ⟨v, he, hv, hx⟩ => ⟨by rw [he, hv], hx⟩
  have h1 := hs.len
  have h2 := hs'.len
  refine Join.dir (rangeI (fun i w2 => l.take i = l'.take i ∧ i ≤ l'.length ∧ Ext w w2) (by rw [h1]; exact hl) ⟨by simp, by omega, Fr.refl _ w⟩ ?_ ?_)
  · rintro i hi w2 ⟨hn, hil, hx⟩ K hK
    have hi : i < l.length := by omega
    obtain ⟨p, hp, a1, a2, hr⟩ := Ints.at (hs.ext hx) hi
    have hd : l.drop i = l[i] :: l.drop (i + 1) := List.drop_eq_getElem_cons hi
    refine ⟨p, hp, a1, a2, _, hr, cond_intro (fun hc => ?_) (fun hc => ?_)⟩
    · have hc : l'.length ≤ i := by simp at hc; omega
      refine ⟨?_, hx⟩
      rw [cmpL_take hn (by omega) hil, hd, List.drop_eq_nil_of_le hc]; rfl
    · have hi' : i < l'.length := by simp at hc; omega
      have hd' : l'.drop i = l'[i] :: l'.drop (i + 1) := List.drop_eq_getElem_cons hi'
      obtain ⟨p', hp', b1, b2, hr'⟩ := Ints.at (hs'.ext hx) hi'
      refine ⟨p', hp', b1, b2, _, hr', (c53 _ _ w2).mono fun e w4 ⟨he, hw⟩ => ⟨_, he, ?_⟩⟩
      subst hw
      refine cond_intro (fun hc => ?_) (fun hc => ?_)
      · have hc : cmpI l[i] l'[i] ≠ 0 := by simpa using hc
        refine ⟨?_, hx⟩
        rw [cmpL_take hn (by omega) hil, hd, hd', cmpL, if_pos hc]
      · have hc : cmpI l[i] l'[i] = 0 := by simpa using hc
        have he : l[i] = l'[i] := by unfold cmpI at hc; split at hc <;> first | omega | (split at hc <;> omega)
        exact hK _ ⟨by rw [List.take_succ_eq_append_getElem hi, List.take_succ_eq_append_getElem hi', hn, he], by omega, hx⟩
  · rintro w2 ⟨hn, hil, hx⟩
    rw [h1] at hn hil
    have hc := cmpL_take hn (Nat.le_refl _) hil
    rw [List.drop_length] at hc
    refine cond_intro (fun h => ⟨?_, hx⟩) (fun h => ⟨?_, hx⟩)
    · have hlt : l.length < l'.length := by simp [h1, h2] at h; omega
      have hd' : l'.drop l.length = l'[l.length] :: l'.drop (l.length + 1) := List.drop_eq_getElem_cons hlt
      rw [hc, hd']; rfl
    · have hge : l'.length ≤ l.length := by simp [h1, h2] at h; omega
      rw [hc, List.drop_eq_nil_of_le hge]; rfl
end Go.Proofs.Ytnbkihkdfhjlmaa
/-
  Plain law: Order's order is that of View or behind it.
-/
namespace Go.Proofs.Ytnbkihkdfhjlmaa
open Go Go.VC
set_option maxHeartbeats 400000

theorem viewL_eqv {p q : List Ev} (h : Eqv p q) (hp : ∀ o ∈ p, o.k ≠ 3) (hq : ∀ o ∈ q, o.k ≠ 3) : viewL p = viewL q := by
  unfold viewL
  congr 1
  · congr 1; funext t
    rw [reads_ems hp, reads_ems hq, h.1]
  · rw [lasts_stf, lasts_stf, h.2]
theorem ok_of_order {h : List Ev} (hv : Wf h) {r : List Int} (hp : r.Perm (com h)) (ht : r.Pairwise fun a b => conf (part h) b a = false) : okP h r := by
  unfold okP
  have hna := part_noabort hv
  have hs := serial_part (h := h) (p := r) fun t ht => hp.mem_iff.1 ht
  rw [← hs]
  refine viewL_eqv (serial_eqv (part h) r (fun o ho => ?_) (hp.nodup_iff.2 (pairwise_lt_nodup (com_sorted h))) ht) hna fun o ho => ?_
  · obtain ⟨h1, h2⟩ := List.mem_filter.1 ho
    have := hv.1 o h1
    unfold okOp at this
    exact ⟨this.2.2.1, hp.mem_iff.2 (by simpa using h2)⟩
  · obtain ⟨t, _, h2⟩ := List.mem_flatMap.1 ho
    exact hna o (List.mem_filter.1 h2).1
theorem cmpL_cons (a : Int) (l l' : List Int) : cmpL (a :: l) (a :: l') = cmpL l l' := by rw [cmpL, if_neg (by simp [cmpI])]
theorem cmpL_lt {a b : Int} (h : a < b) (l l' : List Int) : cmpL (a :: l) (b :: l') = -1 := by
  have : cmpI a b = -1 := by rw [cmpI, if_pos h]
  rw [cmpL, if_pos (by rw [this]; omega), this]
theorem cmpL_self : ∀ l : List Int, cmpL l l = 0
  | [] => rfl
  | a :: r => by rw [cmpL_cons, cmpL_self r]
/-- All orders stand in order. -/
theorem permsN_lex : ∀ (n : Nat) (l : List Int), l.length = n → l.Pairwise (· < ·) → (permsN n l).Pairwise fun a b => cmpL a b ≤ 0
  | 0, l, _, _ => by simp [permsN]
  | n + 1, l, hl, hs => by
    have hin : ∀ i, i < l.length → ((permsN n (l.eraseIdx i)).map fun p => l.getD i 0 :: p).Pairwise fun a b => cmpL a b ≤ 0 := fun i hi => by
      rw [List.pairwise_map]
      refine (permsN_lex n (l.eraseIdx i) (by rw [List.length_eraseIdx, if_pos hi]; omega) (hs.sublist (List.eraseIdx_sublist ..))).imp fun h => ?_
      rw [cmpL_cons]; exact h
    have hout : ∀ i j, i < j → j < l.length → ∀ a ∈ ((permsN n (l.eraseIdx i)).map fun p => l.getD i 0 :: p), ∀ b ∈ ((permsN n (l.eraseIdx j)).map fun p => l.getD j 0 :: p), cmpL a b ≤ 0 := by
      intro i j hij hj a ha b hb
      obtain ⟨p, _, rfl⟩ := List.mem_map.1 ha
      obtain ⟨q, _, rfl⟩ := List.mem_map.1 hb
      have h1 : l.getD i 0 = l[i]'(by omega) := by simp [List.getD, show i < l.length by omega]
      have h2 : l.getD j 0 = l[j] := by simp [List.getD, hj]
      rw [h1, h2, cmpL_lt (List.pairwise_iff_getElem.1 hs i j _ hj hij)]; omega
    have hall : ∀ k, k ≤ l.length → ((List.range k).flatMap fun i => (permsN n (l.eraseIdx i)).map fun p => l.getD i 0 :: p).Pairwise fun a b => cmpL a b ≤ 0 := by
      intro k
      induction k with
      | zero => intro _; simp
      | succ k ih =>
        intro hk
        rw [List.range_succ, List.flatMap_append, List.pairwise_append]
        refine ⟨ih (by omega), by simpa using hin k (by omega), fun a ha b hb => ?_⟩
        obtain ⟨i, hi, ha'⟩ := List.mem_flatMap.1 ha
        simp at hi
        exact hout i k hi (by omega) a ha' b (by simpa using hb)
    unfold permsN
    exact hall l.length (Nat.le_refl _)
theorem find_first {α : Type} {R : α → α → Prop} {P : α → Bool} : ∀ {l : List α} {c r : α}, l.Pairwise R → l.find? P = some c → r ∈ l → P r = true → c = r ∨ R c r
  | [], _, _, _, h, _, _ => by cases h
  | x :: t, c, r, hp, h, hr, hpr => by
    rw [List.find?_cons] at h
    obtain ⟨h1, h2⟩ := List.pairwise_cons.1 hp
    cases hx : P x with
    | true =>
      rw [hx] at h
      cases h
      rcases List.mem_cons.1 hr with rfl | hr
      · exact .inl rfl
      · exact .inr (h1 r hr)
    | false =>
      rw [hx] at h
      rcases List.mem_cons.1 hr with rfl | hr
      · rw [hx] at hpr; cases hpr
      · exact find_first h2 h hr hpr
theorem permsN_all : ∀ (n : Nat) (l p : List Int), l.length = n → p.Perm l → p ∈ permsN n l
  | 0, l, p, hl, hp => by
    have : l = [] := List.eq_nil_of_length_eq_zero hl
    subst this
    rw [hp.eq_nil]; simp [permsN]
  | n + 1, l, p, hl, hp => by
    obtain ⟨a, q, rfl⟩ : ∃ a q, p = a :: q := by
      cases p with
      | nil => have := hp.length_eq; simp at this; omega
      | cons a q => exact ⟨a, q, rfl⟩
    obtain ⟨i, hi, e⟩ := List.getElem_of_mem (hp.mem_iff.1 (List.mem_cons_self (a := a) (l := q)))
    unfold permsN
    refine List.mem_flatMap.2 ⟨i, by simpa using hi, List.mem_map.2 ⟨q, permsN_all n (l.eraseIdx i) q (by rw [List.length_eraseIdx, if_pos hi]; omega) ?_, ?_⟩⟩
    · have h1 : (a :: l.eraseIdx i).Perm l := by
        have e2 : l = l.take i ++ a :: l.drop (i + 1) := by rw [← e, ← List.drop_eq_getElem_cons hi, List.take_append_drop]
        rw [List.eraseIdx_eq_take_drop_succ]
        exact List.perm_middle.symm.trans (List.Perm.of_eq e2.symm)
      exact (List.perm_cons a).1 (hp.trans h1.symm)
    · have : l.getD i 0 = l[i] := by simp [List.getD, hi]
      rw [this, e]
/-- Order OK: no cycle, and View has an order that is not behind it. -/
theorem one_ok {h : List Ev} (hv : Wf h) {r : List Int} (ho : progO h = some r) : progC h = none ∧ ∃ c, progV h = some c ∧ cmpL c r ≤ 0 := by
  obtain ⟨hp, ht⟩ := srt_some _ _ r rfl ho
  refine ⟨no_cycle conf_irr hp ht, ?_⟩
  have hok := ok_of_order hv hp ht
  have hmem := permsN_all _ (com h) r rfl hp
  rw [progV_eq]
  cases hf : refV h with
  | none =>
    have := List.find?_eq_none.1 hf r hmem
    simp [hok] at this
  | some c =>
    refine ⟨c, rfl, ?_⟩
    rcases find_first (permsN_lex _ _ rfl (com_sorted h)) hf hmem (by simpa using hok) with rfl | h
    · rw [cmpL_self]; omega
    · exact h
theorem one_loop {h : List Ev} (ho : progO h = none) : ∃ c, progC h = some c := Option.isSome_iff_exists.1 (cyc_finds conf_irr ho)
end Go.Proofs.Ytnbkihkdfhjlmaa
/-
  Plain law: a history in which nothing was hindered is strict, and its commits are an order that agrees with all conflicts.
-/
namespace Go.Proofs.Ytnbkihkdfhjlmaa
open Go Go.VC
set_option maxHeartbeats 1000000

theorem doL_ex_keep {st : LS} {o : Ev} {u i : Int} (h : st.ex u i = true) (hn : ¬ (o.t = u ∧ o.k > 1)) (h0 : 0 ≤ o.k) : (doL st o).ex u i = true := by
  rcases Int.lt_or_le 1 o.k with hk | hk
  · rw [(doL_sh2 hk).2]; unfold relL; simp [h]; intro e; exact hn ⟨e.symm, hk⟩
  · have : o.k = 0 ∨ o.k = 1 := by omega
    rcases this with e | e
    · rw [(doL_sh0 e).2]; exact h
    · rw [(doL_sh1 e).2]; unfold getL; simp [h]
theorem doL_sh_keep {st : LS} {o : Ev} {u i : Int} (h : st.sh u i = true) (hn : ¬ (o.t = u ∧ o.k > 1)) (h0 : 0 ≤ o.k) : (doL st o).sh u i = true := by
  rcases Int.lt_or_le 1 o.k with hk | hk
  · rw [(doL_sh2 hk).1]; unfold relL; simp [h]; intro e; exact hn ⟨e.symm, hk⟩
  · have : o.k = 0 ∨ o.k = 1 := by omega
    rcases this with e | e
    · rw [(doL_sh0 e).1]; unfold getL; simp [h]
    · rw [(doL_sh1 e).1]; exact h
/-- A lock is held until its transaction ends. -/
theorem lks_ex {l : List Ev} (hok : OkH l) {j : Nat} (hj : j < l.length) (hk : l[j].k = 1) : ∀ n, j < n → n ≤ l.length → (∀ m (hm : m < l.length), j < m → m < n → ¬ (l[m].t = l[j].t ∧ l[m].k > 1)) → (lks (l.take n)).ex l[j].t l[j].i = true
  | 0, h, _, _ => by omega
  | n + 1, h, hn, hno => by
    have hi : n < l.length := by omega
    have h0 := hok _ (List.getElem_mem hi)
    unfold okOp at h0
    rw [List.take_succ_eq_append_getElem hi, lks_snoc]
    by_cases e : j = n
    · subst e
      rw [(doL_sh1 hk).2]; unfold getL; simp
    · exact doL_ex_keep (lks_ex hok hj hk n (by omega) (by omega) fun m hm h1 h2 => hno m hm h1 (by omega)) (hno n hi (by omega) (by omega)) h0.2.2.1
theorem lks_sh {l : List Ev} (hok : OkH l) {j : Nat} (hj : j < l.length) (hk : l[j].k = 0) : ∀ n, j < n → n ≤ l.length → (∀ m (hm : m < l.length), j < m → m < n → ¬ (l[m].t = l[j].t ∧ l[m].k > 1)) → (lks (l.take n)).sh l[j].t l[j].i = true
  | 0, h, _, _ => by omega
  | n + 1, h, hn, hno => by
    have hi : n < l.length := by omega
    have h0 := hok _ (List.getElem_mem hi)
    unfold okOp at h0
    rw [List.take_succ_eq_append_getElem hi, lks_snoc]
    by_cases e : j = n
    · subst e
      rw [(doL_sh0 hk).1]; unfold getL; simp
    · exact doL_sh_keep (lks_sh hok hj hk n (by omega) (by omega) fun m hm h1 h2 => hno m hm h1 (by omega)) (hno n hi (by omega) (by omega)) h0.2.2.1
/-- Behind an operation of another transaction that it clashes with, that transaction has ended. -/
theorem ended {l : List Ev} (hok : OkH l) (hc : Clean l) {j i : Nat} (hj : j < l.length) (hi : i < l.length) (hji : j < i) (hne : l[j].t ≠ l[i].t) (hit' : l[j].i = l[i].i) (hki : l[i].k ≤ 1) (hk : l[j].k = 1 ∨ l[j].k = 0 ∧ l[i].k = 1) :
    ∃ m, ∃ hm : m < l.length, j < m ∧ m < i ∧ l[m].t = l[j].t ∧ l[m].k > 1 := by
  refine Classical.byContradiction fun hcon => ?_
  have hno : ∀ m (hm : m < l.length), j < m → m < i → ¬ (l[m].t = l[j].t ∧ l[m].k > 1) := fun m hm h1 h2 h3 => hcon ⟨m, hm, h1, h2, h3.1, h3.2⟩
  have h0 := hok _ (List.getElem_mem hj)
  unfold okOp at h0
  have hh := hc i hi
  have hhi : hind (lks (l.take i)) l[i] l[j].t = true := by
    unfold hind
    rcases hk with hk | ⟨hk, hk2⟩
    · have := lks_ex hok hj hk i hji (by omega) hno
      rw [hit'] at this
      simp [hne, this]; left; omega
    · have := lks_sh hok hj hk i hji (by omega) hno
      rw [hit'] at this
      simp [hne, this, hk2]
  unfold hit at hh
  rw [List.any_eq_false] at hh
  exact hh l[j].t (mem_six.2 ⟨h0.1, h0.2.1⟩) hhi
/-- Two operations that end one transaction are one. -/
theorem one_end {l : List Ev} (hv : Wf l) {a b : Nat} (ha : a < l.length) (hb : b < l.length) (ht : l[a].t = l[b].t) (ka : l[a].k > 1) (kb : l[b].k > 1) : a = b := by
  have hp := List.pairwise_iff_getElem.1 hv.2
  rcases Nat.lt_trichotomy a b with h | h | h
  · exact absurd ⟨ht, ka⟩ (hp a b ha hb h)
  · exact h
  · exact absurd ⟨ht.symm, kb⟩ (hp b a hb ha h)
theorem end_last {l : List Ev} (hv : Wf l) {a b : Nat} (ha : a < l.length) (hb : b < l.length) (ht : l[a].t = l[b].t) (ka : l[a].k > 1) (kb : l[b].k ≤ 1) : b < a := by
  have hp := List.pairwise_iff_getElem.1 hv.2
  rcases Nat.lt_trichotomy a b with h | h | h
  · exact absurd ⟨ht, ka⟩ (hp a b ha hb h)
  · subst h; omega
  · exact h
theorem end_op {l : List Ev} (hok : OkH l) {m : Nat} (hm : m < l.length) (hk : l[m].k > 1) : (l[m].k = 2 ∨ l[m].k = 3) ∧ l[m] = ⟨l[m].t, l[m].k, 0⟩ := by
  have h0 := hok _ (List.getElem_mem hm)
  unfold okOp at h0
  refine ⟨by omega, ?_⟩
  have : l[m].i = 0 := h0.2.2.2.2.2.2 hk
  cases hl : l[m] with
  | mk t k i => rw [hl] at this; simp at this; rw [this]
theorem fin_at {l : List Ev} (hv : Wf l) {m : Nat} (hm : m < l.length) (hk : l[m].k > 1) : fin l l[m].k l[m].t = m := by
  obtain ⟨_, he⟩ := end_op hv.1 hm hk
  obtain ⟨n, hn, hn2, _⟩ := ix_mem (x := (⟨l[m].t, l[m].k, 0⟩ : Ev)) (l := l) (by rw [← he]; exact List.getElem_mem hm)
  obtain ⟨hnl, hne⟩ := List.getElem?_eq_some_iff.1 hn2
  unfold fin
  rw [hn]
  have : n = m := one_end hv hnl hm (by rw [hne]) (by rw [hne]; exact hk) hk
  rw [this]
theorem fin_none {l : List Ev} {k t : Int} (h : (⟨t, k, 0⟩ : Ev) ∉ l) : fin l k t = -1 := ix_not h
theorem over_at {l : List Ev} (hv : Wf l) {m : Nat} (hm : m < l.length) (hk : l[m].k > 1) : overI l l[m].t = m := by
  have h1 := fin_at hv hm hk
  have hother : ∀ k, k > 1 → k ≠ l[m].k → fin l k l[m].t = -1 := fun k hk2 hne => fin_none fun hmem => by
    obtain ⟨n, hn, he⟩ := List.getElem_of_mem hmem
    have := one_end hv hn hm (by rw [he]) (by rw [he]; exact hk2) hk
    subst this
    rw [he] at hne; exact hne rfl
  unfold overI
  rcases (end_op hv.1 hm hk).1 with e | e
  · rw [e] at h1
    have := hother 3 (by omega) (by omega)
    rw [h1, this, if_neg (by omega)]
  · rw [e] at h1
    have := hother 2 (by omega) (by omega)
    rw [h1, this, if_pos (by omega)]
theorem clean_strict {l : List Ev} (hv : Wf l) (hc : Clean l) : strictB l = true := by
  unfold strictB
  rw [List.all_eq_true]
  intro i hi
  have hi : i < l.length := by simpa using hi
  unfold strictAt
  by_cases hk : (opA l i).k > 1
  · simp [hk]
  · rw [decide_eq_false hk, Bool.false_or, List.all_eq_true]
    intro j hj
    have hj : j < i := by simpa using hj
    have hjl : j < l.length := by omega
    rw [Bool.not_eq_true', Bool.eq_false_iff]
    intro hb
    unfold badB at hb
    rw [opA_at hi, opA_at hjl] at hb
    rw [opA_at hi] at hk
    simp only [Bool.and_eq_true, Bool.or_eq_true, decide_eq_true_eq] at hb
    obtain ⟨h1, h2, h3, h4⟩ := hb
    obtain ⟨m, hm, hjm, hmi, hmt, hmk⟩ := ended hv.1 hc hjl hi hj h3 h2 (by omega) (.inl h1)
    have := over_at hv hm hmk
    rw [hmt] at this
    omega

/-! ### the commits -/
def isCm (o : Ev) : Bool := decide (o.k = 2)
def cm (l : List Ev) : List Int := (l.filter isCm).map (·.t)
theorem mem_cm {l : List Ev} (hok : OkH l) {t : Int} : t ∈ cm l ↔ (⟨t, 2, 0⟩ : Ev) ∈ l := by
  unfold cm
  rw [List.mem_map]
  constructor
  · rintro ⟨o, ho, rfl⟩
    obtain ⟨h1, h2⟩ := List.mem_filter.1 ho
    have h2 : o.k = 2 := by simpa [isCm] using h2
    have h0 := hok o h1
    unfold okOp at h0
    have : o.i = 0 := h0.2.2.2.2.2.2 (by omega)
    cases o
    simp at h2 this
    subst h2
    subst this
    exact h1
  · intro h
    exact ⟨_, List.mem_filter.2 ⟨h, by simp [isCm]⟩, rfl⟩
theorem cm_pair {l : List Ev} {R : Int → Int → Prop} : (cm l).Pairwise R ↔ ∀ i j (hi : i < l.length) (hj : j < l.length), i < j → l[i].k = 2 → l[j].k = 2 → R l[i].t l[j].t := by
  unfold cm
  rw [List.pairwise_map, List.pairwise_filter, List.pairwise_iff_getElem]
  simp only [isCm, decide_eq_true_eq]
theorem cm_nodup {l : List Ev} (hv : Wf l) : (cm l).Nodup := cm_pair.2 fun i j hi hj hij ki kj e => by
  have := one_end hv hi hj e (by omega) (by omega)
  omega
theorem cm_perm {l : List Ev} (hv : Wf l) : (cm l).Perm (com l) := by
  refine (List.perm_ext_iff_of_nodup (cm_nodup hv) (pairwise_lt_nodup (com_sorted l))).2 fun t => ?_
  rw [mem_cm hv.1, mem_com]
  unfold fin
  rw [ix_nonneg]
  constructor
  · intro h
    have := hv.1 _ h
    unfold okOp at this
    exact ⟨this.1, this.2.1, h⟩
  · exact fun h => h.2.2
theorem confR_unfilter {f : Ev → Bool} {a b : Int} : ∀ {p : List Ev}, confR (p.filter f) a b → confR p a b
  | [], h => h
  | o :: r, h => by
    rw [List.filter_cons] at h
    split at h
    · rcases h with ⟨y, hy, h1⟩ | h
      · exact .inl ⟨y, (List.mem_filter.1 hy).1, h1⟩
      · exact .inr (confR_unfilter h)
    · exact .inr (confR_unfilter h)
theorem conf_part {l : List Ev} {a b : Int} (h : conf (part l) a b = true) : conf l a b = true := conf_confR.2 (confR_unfilter (conf_confR.1 h))
theorem cm_agrees {l : List Ev} (hv : Wf l) (hc : Clean l) : (cm l).Pairwise fun a b => conf (part l) b a = false := by
  rw [cm_pair]
  intro a b ha hb hab ka kb
  rw [Bool.eq_false_iff]
  intro hcf
  obtain ⟨i, j, hi, hj, hij, h1, h2, h3⟩ := conf_iff.1 (conf_part hcf)
  have o1 := hv.1 _ (List.getElem_mem hi)
  have o2 := hv.1 _ (List.getElem_mem hj)
  unfold okOp at o1 o2
  unfold cfl at h1
  simp only [Bool.and_eq_true, bne_iff_ne, ne_eq, beq_iff_eq] at h1
  obtain ⟨g1, g2, g3⟩ := h1
  have hkj : l[j].k ≤ 1 := by split at g3 <;> omega
  have hkk : l[i].k = 1 ∨ l[i].k = 0 ∧ l[j].k = 1 := by split at g3 <;> omega
  obtain ⟨m, hm, him, hmj, hmt, hmk⟩ := ended hv.1 hc hi hj hij g1 g2 hkj hkk
  have e1 : m = b := one_end hv hm hb (by rw [hmt, h2]) hmk (by omega)
  have e2 : j < a := end_last hv ha hj h3.symm (by omega) hkj
  omega
/-- Where some order agrees, srt finds one. -/
theorem srt_ok {E : Int → Int → Bool} (hirr : ∀ a, E a a = false) {l r : List Int} (hp : r.Perm l) (ht : r.Pairwise fun a b => E b a = false) : srt E l.length l ≠ none := by
  intro hn
  obtain ⟨m, h0, hs, hm⟩ := srt_none _ l rfl hn
  have key : ∀ r : List Int, r.Pairwise (fun a b => E b a = false) → (∃ x ∈ m, x ∈ r) → (∀ x ∈ m, x ∈ r ∨ ∀ y ∈ r, E x y = false) → False := by
    intro r
    induction r with
    | nil => rintro _ ⟨x, _, hx⟩ _; cases hx
    | cons y r ih =>
      intro hp ⟨x, hxm, hxr⟩ hall
      obtain ⟨h1, h2⟩ := List.pairwise_cons.1 hp
      by_cases hy : y ∈ m
      · obtain ⟨a, ha, hae⟩ := hm y hy
        rcases hall a ha with h3 | h3
        · rcases List.mem_cons.1 h3 with rfl | h3
          · rw [hirr] at hae; cases hae
          · rw [h1 a h3] at hae; cases hae
        · rw [h3 y (by simp)] at hae; cases hae
      · refine ih h2 ⟨x, hxm, ?_⟩ fun z hz => ?_
        · rcases List.mem_cons.1 hxr with rfl | h; exact absurd hxm hy; exact h
        · rcases hall z hz with h3 | h3
          · rcases List.mem_cons.1 h3 with rfl | h3
            · exact absurd hz hy
            · exact .inl h3
          · exact .inr fun w hw => h3 w (by simp [hw])
  obtain ⟨x, hx⟩ := List.exists_mem_of_ne_nil m h0
  exact key r ht ⟨x, hx, hp.mem_iff.2 (hs x hx)⟩ fun z hz => .inl (hp.mem_iff.2 (hs z hz))
theorem clean_order {l : List Ev} (hv : Wf l) (hc : Clean l) : (progO l).isSome = true := by
  have := srt_ok (conf_irr (p := part l)) (cm_perm hv) (cm_agrees hv hc)
  unfold progO
  exact Option.isSome_iff_ne_none.2 this
end Go.Proofs.Ytnbkihkdfhjlmaa
/-
  Plain law: transactions one after another: clean, allowed by snapshots, and their order agrees with all edges; the order that is found first is not behind it.
-/
namespace Go.Proofs.Ytnbkihkdfhjlmaa
open Go Go.VC
set_option maxHeartbeats 1000000

/-! ### the first order -/
theorem ixf_first {P : Int → Bool} : ∀ {l : List Int} {k j : Nat}, ixf P l = k → ∀ {y : Int}, l[j]? = some y → P y = true → k ≤ j
  | [], _, _, _, _, h, _ => by cases h
  | x :: r, k, j, hk, y, hj, hp => by
    rw [ixf] at hk
    by_cases hx : P x = true
    · rw [if_pos hx] at hk; omega
    · rw [if_neg hx] at hk
      cases j with
      | zero => cases hj; exact absurd hp hx
      | succ j =>
        split at hk
        · omega
        · obtain ⟨m, rfl⟩ : ∃ m, k = m + 1 := ⟨k - 1, by omega⟩
          have := ixf_first (P := P) (l := r) (k := m) (j := j) (by omega) (by simpa using hj) hp
          omega
theorem srt_least {E : Int → Int → Bool} (hirr : ∀ a, E a a = false) : ∀ (n : Nat) (l r q : List Int), l.length = n → l.Pairwise (· < ·) → srt E n l = some r → q.Perm l → (q.Pairwise fun a b => E b a = false) → cmpL r q ≤ 0
  | 0, l, r, q, hl, _, h, hp, _ => by
    have : l = [] := List.eq_nil_of_length_eq_zero hl
    subst this
    simp [srt] at h; subst h
    rw [hp.eq_nil]; exact Int.le_refl _
  | n + 1, l, r, q, hl, hs, h, hp, ht => by
    rw [srt] at h
    by_cases hneg : ixf (free E l) l < 0
    · rw [if_pos hneg] at h; cases h
    · rw [if_neg hneg] at h
      obtain ⟨r', hr', rfl⟩ := Option.map_eq_some_iff.1 h
      obtain ⟨k, hk⟩ : ∃ k : Nat, ixf (free E l) l = k := ⟨(ixf (free E l) l).toNat, by omega⟩
      rw [hk, Int.toNat_natCast] at hr' ⊢
      obtain ⟨x, hx, hpx⟩ := ixf_spec hk
      obtain ⟨hkl, hxe⟩ := List.getElem?_eq_some_iff.1 hx
      have hgd : l.getD k 0 = x := by simp [List.getD, hx]
      rw [hgd]
      obtain ⟨y, q', rfl⟩ : ∃ y q', q = y :: q' := by
        cases q with
        | nil => have := hp.length_eq; simp at this; omega
        | cons y q' => exact ⟨y, q', rfl⟩
      obtain ⟨h1, h2⟩ := List.pairwise_cons.1 ht
      have hyl : y ∈ l := hp.mem_iff.1 (by simp)
      have hyf : free E l y = true := by
        unfold free
        rw [Bool.not_eq_true', List.any_eq_false]
        intro a ha
        rcases List.mem_cons.1 (hp.mem_iff.2 ha) with rfl | ha
        · rw [hirr]; simp
        · rw [h1 a ha]; simp
      obtain ⟨j, hj, hje⟩ := List.getElem_of_mem hyl
      have hkj := ixf_first hk (j := j) (List.getElem?_eq_getElem hj) (by rw [hje]; exact hyf)
      have hxy : x ≤ y := by
        rcases Nat.lt_or_eq_of_le hkj with h3 | h3
        · have := List.pairwise_iff_getElem.1 hs k j hkl hj h3
          rw [hxe, hje] at this; omega
        · subst h3; rw [hxe] at hje; omega
      by_cases e : x = y
      · subst e
        rw [cmpL_cons]
        have hpm : (x :: l.eraseIdx k).Perm l := by
          have e : l = l.take k ++ x :: l.drop (k + 1) := by rw [← hxe, ← List.drop_eq_getElem_cons hkl, List.take_append_drop]
          rw [List.eraseIdx_eq_take_drop_succ]
          exact List.perm_middle.symm.trans (List.Perm.of_eq e.symm)
        exact srt_least hirr n (l.eraseIdx k) r' q' (by rw [List.length_eraseIdx, if_pos hkl]; omega) (hs.sublist (List.eraseIdx_sublist ..)) hr' ((List.perm_cons x).1 (hp.trans hpm.symm)) h2
      · rw [cmpL_lt (by omega)]; omega

/-! ### one after another -/
def blkT (h : List Ev) (t : Int) : List Ev := h.filter (fun o => decide (o.t = t ∧ o.k < 2)) ++ [⟨t, 2, 0⟩]
def ser (h : List Ev) (ds : List Int) : List Ev := ds.flatMap (blkT h)
theorem ser_snoc (h : List Ev) (ds : List Int) (t : Int) : ser h (ds ++ [t]) = ser h ds ++ blkT h t := by unfold ser; rw [List.flatMap_append]; simp
theorem ser_append (h : List Ev) (a b : List Int) : ser h (a ++ b) = ser h a ++ ser h b := by unfold ser; rw [List.flatMap_append]
theorem blkT_t {h : List Ev} {t : Int} {o : Ev} (ho : o ∈ blkT h t) : o.t = t := by
  unfold blkT at ho
  rcases List.mem_append.1 ho with ho | ho
  · have := (List.mem_filter.1 ho).2; simp at this; exact this.1
  · simp at ho; subst ho; rfl
theorem ser_mem {h : List Ev} {ds : List Int} {o : Ev} (ho : o ∈ ser h ds) : o.t ∈ ds := by
  obtain ⟨t, ht, ho⟩ := List.mem_flatMap.1 ho
  rw [blkT_t ho]; exact ht
theorem ser_commit {h : List Ev} {ds : List Int} {t : Int} (ht : t ∈ ds) : (⟨t, 2, 0⟩ : Ev) ∈ ser h ds := List.mem_flatMap.2 ⟨t, ht, by unfold blkT; simp⟩
section
variable {h : List Ev} {ds : List Int}
theorem ser_ok (hok : OkH h) (h6 : ∀ t ∈ ds, t ∈ six) : OkH (ser h ds) := by
  intro o ho
  obtain ⟨t, ht, ho⟩ := List.mem_flatMap.1 ho
  unfold blkT at ho
  rcases List.mem_append.1 ho with ho | ho
  · exact hok o (List.mem_filter.1 ho).1
  · simp at ho; subst ho
    have := mem_six.1 (h6 t ht)
    unfold okOp; simp; omega
theorem ser_apart : ∀ {ds : List Int}, ds.Nodup → (ser h ds).Pairwise apart
  | [], _ => by simp [ser]
  | t :: r, hn => by
    obtain ⟨h1, h2⟩ := List.nodup_cons.1 hn
    have e : ser h (t :: r) = blkT h t ++ ser h r := by unfold ser; rw [List.flatMap_cons]
    rw [e, List.pairwise_append]
    refine ⟨?_, ser_apart h2, fun a ha b hb hab => h1 ?_⟩
    · unfold blkT
      rw [List.pairwise_append]
      refine ⟨List.pairwise_iff_getElem.2 fun i j hi hj hij => ?_, by simp, fun a ha b _ hab => ?_⟩
      · intro hab
        have := (List.mem_filter.1 (List.getElem_mem hi)).2
        simp only [decide_eq_true_eq] at this
        omega
      · have := (List.mem_filter.1 ha).2
        simp only [decide_eq_true_eq] at this
        omega
    · rw [← blkT_t ha, hab.1]; exact ser_mem hb
theorem ser_wf (hok : OkH h) (hn : ds.Nodup) (h6 : ∀ t ∈ ds, t ∈ six) : Wf (ser h ds) := ⟨ser_ok hok h6, ser_apart hn⟩
/-- No locks but those of one transaction. -/
def OnlyT (st : LS) (t : Int) : Prop := ∀ x i, x ≠ t → st.sh x i = false ∧ st.ex x i = false
def NoL (st : LS) : Prop := ∀ x i, st.sh x i = false ∧ st.ex x i = false
theorem OnlyT.hit {st : LS} {t : Int} (k : OnlyT st t) {o : Ev} (ho : o.t = t) : hit st o = false := by
  unfold Go.Proofs.Ytnbkihkdfhjlmaa.hit
  rw [List.any_eq_false]
  intro x _
  unfold hind
  by_cases e : x = o.t
  · simp [e]
  · have := k x o.i (by rw [← ho]; exact e)
    simp [this.1, this.2]
theorem OnlyT.doL {st : LS} {t : Int} (k : OnlyT st t) {o : Ev} (ho : o.t = t) (h0 : 0 ≤ o.k) : OnlyT (Go.Proofs.Ytnbkihkdfhjlmaa.doL st o) t := by
  intro x i hx
  have := k x i hx
  rcases Int.lt_or_le 1 o.k with hk | hk
  · rw [(doL_sh2 hk).1, (doL_sh2 hk).2]; unfold relL; simp [this.1, this.2]
  · have : o.k = 0 ∨ o.k = 1 := by omega
    have hne : x ≠ o.t := by rw [ho]; exact hx
    rcases this with e | e
    · rw [(doL_sh0 e).1, (doL_sh0 e).2]; unfold getL; simp [k x i hx, hne]
    · rw [(doL_sh1 e).1, (doL_sh1 e).2]; unfold getL; simp [k x i hx, hne]
theorem clean_run {p : List Ev} {t : Int} (hc : Clean p) (k : OnlyT (lks p) t) : ∀ q : List Ev, (∀ o ∈ q, o.t = t ∧ 0 ≤ o.k) → Clean (p ++ q) ∧ OnlyT (lks (p ++ q)) t := by
  intro q
  induction q generalizing p with
  | nil => intro _; rw [List.append_nil]; exact ⟨hc, k⟩
  | cons o r ih =>
    intro hq
    have ho := hq o (by simp)
    have h1 := clean_snoc hc (k.hit ho.1)
    have h2 : OnlyT (lks (p ++ [o])) t := by rw [lks_snoc]; exact k.doL ho.1 ho.2
    have := ih h1 h2 fun x hx => hq x (by simp [hx])
    rw [List.append_assoc] at this
    exact this
theorem ser_clean (hok : OkH h) : ∀ ds : List Int, Clean (ser h ds) ∧ NoL (lks (ser h ds)) := by
  intro ds
  have : ∀ rs : List Int, Clean (ser h rs.reverse) ∧ NoL (lks (ser h rs.reverse)) := by
    intro rs
    induction rs with
    | nil => exact ⟨clean_nil, fun x i => ⟨rfl, rfl⟩⟩
    | cons t r ih =>
      rw [List.reverse_cons, ser_snoc]
      unfold blkT
      rw [← List.append_assoc]
      obtain ⟨h1, h2⟩ := clean_run (t := t) ih.1 (fun x i _ => ih.2 x i) (h.filter fun o => decide (o.t = t ∧ o.k < 2)) fun o ho => by
        have h3 := List.mem_filter.1 ho
        have h4 := hok o h3.1
        unfold okOp at h4
        have := h3.2
        simp at this
        exact ⟨this.1, h4.2.2.1⟩
      refine ⟨clean_snoc h1 (h2.hit rfl), fun x i => ?_⟩
      rw [lks_snoc, (doL_sh2 (o := ⟨t, 2, 0⟩) (by show (1 : Int) < 2; decide)).1, (doL_sh2 (o := ⟨t, 2, 0⟩) (by show (1 : Int) < 2; decide)).2]
      unfold relL
      by_cases e : x = t
      · simp [e]
      · have := h2 x i e; simp only [this.1, this.2, Bool.and_false, and_self]
  have := this ds.reverse
  rwa [List.reverse_reverse] at this
theorem ser_cm (hok : OkH h) : ∀ ds : List Int, cm (ser h ds) = ds
  | [] => rfl
  | t :: r => by
    have e : ser h (t :: r) = blkT h t ++ ser h r := by unfold ser; rw [List.flatMap_cons]
    have e2 : (blkT h t).filter isCm = [⟨t, 2, 0⟩] := by
      unfold blkT
      rw [List.filter_append, List.filter_filter]
      have : h.filter (fun a => isCm a && decide (a.t = t ∧ a.k < 2)) = [] := by
        rw [List.filter_eq_nil_iff]
        intro a _
        unfold isCm
        simp; omega
      rw [this]; rfl
    have ih := ser_cm hok r
    unfold cm at ih ⊢
    rw [e, List.filter_append, e2, List.map_append, ih]; rfl

/-! ### places -/
theorem ix_left {α : Type} [DecidableEq α] {x : α} {p q : List α} (h : x ∈ p) : ix x (p ++ q) < p.length := by
  obtain ⟨i, h1, h2, h3⟩ := ix_mem h
  have hi : i < p.length := (List.getElem?_eq_some_iff.1 h2).1
  rw [ix_at (i := i) (by rw [List.getElem?_append_left hi]; exact h2) (by rw [List.take_append_of_le_length (by omega)]; exact h3)]
  omega
theorem ix_right {α : Type} [DecidableEq α] {x : α} {p q : List α} (h : x ∉ p) (hq : x ∈ q) : (p.length : Int) ≤ ix x (p ++ q) := by
  obtain ⟨i, h1, h2, h3⟩ := ix_mem (l := p ++ q) (x := x) (by simp [hq])
  rw [h1]
  rcases Nat.lt_or_ge i p.length with hi | hi
  · rw [List.getElem?_append_left hi] at h2
    exact absurd (List.mem_of_getElem? h2) h
  · omega
/-- One ahead of another: all of it is ahead. -/
theorem ser_ahead (hok : OkH h) (hn : ds.Nodup) (h6 : ∀ t ∈ ds, t ∈ six) {d1 d2 : List Int} {a b : Int} (hd : ds = d1 ++ a :: d2) (hb : b ∈ d2) :
    ∃ m : Int, endOf (ser h ds) a < m ∧ begOf (ser h ds) a < m ∧ m ≤ begOf (ser h ds) b ∧ m ≤ endOf (ser h ds) b := by
  have hcom : ∀ t, t ∈ com (ser h ds) ↔ t ∈ ds := fun t => by
    have := (cm_perm (ser_wf hok hn h6)).mem_iff (a := t)
    rw [ser_cm hok] at this; exact this.symm
  have hads : a ∈ ds := by rw [hd]; simp
  have hbds : b ∈ ds := by rw [hd]; simp [hb]
  have hab : b ∉ d1 ++ [a] := by
    intro hm
    rw [hd] at hn
    have h1 := List.nodup_append.1 hn
    rcases List.mem_append.1 hm with hm | hm
    · exact h1.2.2 b hm b (by simp [hb]) rfl
    · simp at hm; subst hm
      exact (List.nodup_cons.1 h1.2.1).1 hb
  have hsplit : ser h ds = ser h (d1 ++ [a]) ++ ser h d2 := by rw [hd, ← ser_append]; simp
  have ra := mem_six.1 (h6 a hads)
  have rb := mem_six.1 (h6 b hbds)
  refine ⟨((ser h (d1 ++ [a])).length : Int), ?_, ?_, ?_, ?_⟩
  · unfold endOf; rw [if_pos ra]; unfold fin; rw [hsplit]; exact ix_left (ser_commit (by simp))
  · unfold begOf; rw [if_pos ((hcom a).2 hads)]; unfold beg; rw [hsplit, List.map_append]
    have := ix_left (x := a) (p := (ser h (d1 ++ [a])).map (·.t)) (q := (ser h d2).map (·.t)) (List.mem_map.2 ⟨_, ser_commit (h := h) (t := a) (by simp), rfl⟩)
    rwa [List.length_map] at this
  · unfold begOf; rw [if_pos ((hcom b).2 hbds)]; unfold beg; rw [hsplit, List.map_append]
    have := ix_right (x := b) (p := (ser h (d1 ++ [a])).map (·.t)) (q := (ser h d2).map (·.t)) (fun hm => by
      obtain ⟨o, ho, e⟩ := List.mem_map.1 hm
      have := ser_mem ho
      rw [e] at this; exact hab this) (List.mem_map.2 ⟨_, ser_commit (h := h) (t := b) hb, rfl⟩)
    rwa [List.length_map] at this
  · unfold endOf; rw [if_pos rb]; unfold fin; rw [hsplit]
    exact ix_right (fun hm => hab (ser_mem hm)) (ser_commit hb)
theorem two_split : ∀ {l : List Int} {a b : Int}, a ∈ l → b ∈ l → a ≠ b → (∃ d1 d2, l = d1 ++ a :: d2 ∧ b ∈ d2) ∨ (∃ d1 d2, l = d1 ++ b :: d2 ∧ a ∈ d2)
  | [], _, _, h, _, _ => by cases h
  | x :: r, a, b, ha, hb, hne => by
    rcases List.mem_cons.1 ha with rfl | ha'
    · rcases List.mem_cons.1 hb with rfl | hb'
      · exact absurd rfl hne
      · exact .inl ⟨[], r, rfl, hb'⟩
    · rcases List.mem_cons.1 hb with rfl | hb'
      · exact .inr ⟨[], r, rfl, ha'⟩
      · rcases two_split ha' hb' hne with ⟨d1, d2, e, h⟩ | ⟨d1, d2, e, h⟩
        · exact .inl ⟨x :: d1, d2, by rw [e]; rfl, h⟩
        · exact .inr ⟨x :: d1, d2, by rw [e]; rfl, h⟩
theorem pair_split {R : Int → Int → Prop} : ∀ {l : List Int}, (∀ d1 a d2 b, l = d1 ++ a :: d2 → b ∈ d2 → R a b) → l.Pairwise R
  | [], _ => List.Pairwise.nil
  | x :: r, h => List.pairwise_cons.2 ⟨fun b hb => h [] x r b rfl hb, pair_split fun d1 a d2 b e hb => h (x :: d1) a d2 b (by rw [e]; rfl) hb⟩
theorem ser_allow (hok : OkH h) (hn : ds.Nodup) (h6 : ∀ t ∈ ds, t ∈ six) : allowP (ser h ds) := by
  intro a ha b hb i hi
  have hcom : ∀ t, t ∈ com (ser h ds) → t ∈ ds := fun t ht => by
    have := (cm_perm (ser_wf hok hn h6)).mem_iff (a := t)
    rw [ser_cm hok] at this; exact this.2 ht
  unfold badA
  by_cases e : a = b
  · subst e; simp
  · have : ovl (ser h ds) a b = false := by
      unfold ovl
      rcases two_split (hcom a ha) (hcom b hb) e with ⟨d1, d2, hd, h1⟩ | ⟨d1, d2, hd, h1⟩
      · obtain ⟨m, m1, m2, m3, m4⟩ := ser_ahead hok hn h6 hd h1
        have : ¬ begOf (ser h ds) b < endOf (ser h ds) a := by omega
        simp [this]
      · obtain ⟨m, m1, m2, m3, m4⟩ := ser_ahead hok hn h6 hd h1
        have : ¬ begOf (ser h ds) a < endOf (ser h ds) b := by omega
        simp [this]
    rw [this]; simp
theorem srcN_early {g : List Ev} {t i : Int} : ∀ (l : List Int) (b : Int), (b = 0 ∨ endOf g b < begOf g t) → srcN g t i l b = 0 ∨ endOf g (srcN g t i l b) < begOf g t
  | [], b, h => h
  | a :: r, b, h => by
    rw [srcN]
    split
    · rename_i hc; exact srcN_early r a (.inr hc.2.1)
    · exact srcN_early r b h
theorem allE_irr (g : List Ev) (a : Int) : allE g a a = false := by
  unfold allE antK othK
  simp
theorem ser_edges (hok : OkH h) (hn : ds.Nodup) (h6 : ∀ t ∈ ds, t ∈ six) : ds.Pairwise fun a b => allE (ser h ds) b a = false := by
  refine pair_split fun d1 a d2 b hd hb => ?_
  obtain ⟨m, m1, m2, m3, m4⟩ := ser_ahead hok hn h6 hd hb
  have hb0 : b ≠ 0 := by
    have := mem_six.1 (h6 b (by rw [hd]; simp [hb])); omega
  unfold allE
  simp only [Bool.and_eq_false_iff]
  right; right
  rw [List.any_eq_false]
  intro k _
  unfold antK othK
  have e1 : ¬ endOf (ser h ds) a > begOf (ser h ds) b := by omega
  have e2 : ¬ endOf (ser h ds) b < endOf (ser h ds) a := by omega
  have e3 : (srcS (ser h ds) a (k : Nat) == b) = false := by
    rw [beq_eq_false_iff_ne]
    intro e
    rcases srcN_early (g := ser h ds) (t := a) (i := (k : Int)) (com (ser h ds)) 0 (.inl rfl) with h1 | h1
    · unfold srcS at e; rw [h1] at e; exact hb0 e.symm
    · unfold srcS at e; rw [e] at h1; omega
  simp [e1, e2, e3]
/-- All that HistorySerial asks of the history. -/
theorem ser_law (hok : OkH h) (hn : ds.Nodup) (h6 : ∀ t ∈ ds, t ∈ six) :
    (∃ r, progO (ser h ds) = some r ∧ cmpL r ds ≤ 0) ∧ strictB (ser h ds) = true ∧ allowP (ser h ds) ∧ (∃ r, progS (ser h ds) = some r ∧ cmpL r ds ≤ 0) ∧ (lockP (ser h ds)).dn = ser h ds ∧ (lockP (ser h ds)).ab = [] ∧
      ds.Perm (com (ser h ds)) ∧ ds.Pairwise fun a b => conf (part (ser h ds)) b a = false := by
  have hw := ser_wf hok hn h6
  obtain ⟨hc, _⟩ := ser_clean hok ds
  have hp := cm_perm hw
  have ha := cm_agrees hw hc
  rw [ser_cm hok] at hp ha
  obtain ⟨l1, l2⟩ := lock_twice hc
  refine ⟨?_, clean_strict hw hc, ser_allow hok hn h6, ?_, l1, l2, hp, ha⟩
  · obtain ⟨r, hr⟩ := Option.isSome_iff_exists.1 (clean_order hw hc)
    exact ⟨r, hr, srt_least conf_irr _ _ r ds rfl (com_sorted _) hr hp ha⟩
  · have := srt_ok (allE_irr (ser h ds)) hp (ser_edges hok hn h6)
    obtain ⟨r, hr⟩ := Option.ne_none_iff_exists'.1 this
    exact ⟨r, hr, srt_least (allE_irr _) _ _ r ds rfl (com_sorted _) hr hp (ser_edges hok hn h6)⟩
end
end Go.Proofs.Ytnbkihkdfhjlmaa
/-
  The state of the reference's Lock in memory; contracts: who hinders, releasing, doing an operation.
-/
namespace Go.Proofs.Ytnbkihkdfhjlmaa
open Go Go.VC
set_option maxHeartbeats 1000000
set_option maxRecDepth 100000

def jI (j : Nat) : Int := (j : Int)
structure Tab (h : List Ev) (B : Nat) (w : World) (b : Nat) (st : LS) (wt : Nat → Bool) (f : Nat → Value) (sd sa sh : Sl) (sq : Nat → Sl) : Prop where
  fb : FB w b 101 f 99
  base : B ≤ b
  fd : f 0 = kS sd
  fs : ∀ x i : Nat, x < 7 → i < 6 → f (1 + x * 6 + i) = .bool (st.sh x i)
  fo : ∀ x i : Nat, x < 7 → i < 6 → f (43 + x * 6 + i) = .bool (st.ex x i)
  fq : ∀ x : Nat, x < 7 → f (85 + x) = kS (sq x)
  fw : ∀ x : Nat, x < 7 → f (92 + x) = .bool (wt x)
  fa : f 99 = kS sa
  fh : f 100 = kS sh
  od : Own 37 3 eO B w sd st.dn
  oa : Own 3 1 eI B w sa st.ab
  tl : ∀ x : Nat, x < 7 → Tl 3 1 eI B w (sq x) ((st.q x).map jI)
  sep : ∀ x y : Nat, x < 7 → y < 7 → x ≠ y → ∀ g, Rm (sq x) g → ¬ Rm (sq y) g
  sepa : ∀ x : Nat, x < 7 → ∀ g, Rm (sq x) g → ¬ Bl sa g
  hs : Hs w sh h
  hB : ∀ a, h ≠ [] → sh.a = some a → a.block < B
section
variable {h : List Ev} {B : Nat} {w w' : World} {b : Nat} {st : LS} {wt : Nat → Bool} {f : Nat → Value} {sd sa sh : Sl} {sq : Nat → Sl}
theorem Tab.ext (t : Tab h B w b st wt f sd sa sh sq) (x : Ext w w') : Tab h B w' b st wt f sd sa sh sq :=
  ⟨t.fb.ext x, t.base, t.fd, t.fs, t.fo, t.fq, t.fw, t.fa, t.fh, t.od.ext x, t.oa.ext x, fun i hi => (t.tl i hi).ext x, t.sep, t.sepa, t.hs.ext x, t.hB⟩
theorem Tab.hBw (t : Tab h B w b st wt f sd sa sh sq) : B ≤ w.heap.size := by have := t.base; have := t.fb.lt; omega
/-- A history that lies below B is not touched. -/
theorem Tab.hsFr (t : Tab h B w b st wt f sd sa sh sq) {M : Nat → Prop} (fr : Fr M w w') (hM : ∀ y, M y → B ≤ y) : Hs w' sh h := by
  by_cases hl : h = []
  · subst hl; exact ⟨t.hs.len, t.hs.cap, fun h => absurd rfl h⟩
  · exact t.hs.fr fr fun a ha hm => by have := t.hB a hl ha; have := hM _ hm; omega
/-- Cells of the block change; what they say is told. -/
theorem Tab.put (t : Tab h B w b st wt f sd sa sh sq) {o : Nat} {vs : List Value} (ho : o + vs.length ≤ 101) {st' : LS} {wt' : Nat → Bool} (h1 : st'.dn = st.dn) (h2 : st'.ab = st.ab) (h3 : st'.q = st.q) (h0 : 1 ≤ o) (h85 : o + vs.length ≤ 85 ∨ 92 ≤ o ∧ o + vs.length ≤ 99)
    (hs : ∀ x i : Nat, x < 7 → i < 6 → updF f o vs (1 + x * 6 + i) = .bool (st'.sh x i)) (he : ∀ x i : Nat, x < 7 → i < 6 → updF f o vs (43 + x * 6 + i) = .bool (st'.ex x i)) (hw : ∀ x : Nat, x < 7 → updF f o vs (92 + x) = .bool (wt' x)) :
    Tab h B (put w b o vs) b st' wt' (updF f o vs) sd sa sh sq ∧ Fr (fun y => y = b) w (put w b o vs) := by
  have fr : Fr (fun y => y = b) w (VC.put w b o vs) := Fr.put ..
  refine ⟨⟨t.fb.put ho, t.base, ?_, hs, he, fun x hx => ?_, hw, ?_, ?_, ?_, ?_, fun x hx => ?_, t.sep, t.sepa, t.hsFr fr fun y (hy : y = b) => by have := t.base; omega, t.hB⟩, fr⟩
  · rw [updF_out (.inl (by omega))]; exact t.fd
  · rw [updF_out (by omega)]; exact t.fq x hx
  · rw [updF_out (.inr (by omega))]; exact t.fa
  · rw [updF_out (.inr (by omega))]; exact t.fh
  · rw [h1]; exact t.od.fr fr fun a ha e => by obtain ⟨cur, hc⟩ := t.od.blk ha; exact Blk.ne_ty hc t.fb (by decide) e
  · rw [h2]; exact t.oa.fr fr fun a ha e => by obtain ⟨cur, hc⟩ := t.oa.blk ha; exact Blk.ne_ty hc t.fb (by decide) e
  · rw [h3]; exact (t.tl x hx).fr fr fun y hy e => by obtain ⟨_, _, cur, hc⟩ := (t.tl x hx).base hy; exact Blk.ne_ty hc t.fb (by decide) e
theorem Tab.cd (t : Tab h B w b st wt f sd sa sh sq) : World.cell? w ⟨b, 0, none⟩ = some (.slice sd.a sd.n sd.c) := t.fb.cell (by omega) t.fd
theorem Tab.ca (t : Tab h B w b st wt f sd sa sh sq) : World.cell? w ⟨b, 99, none⟩ = some (.slice sa.a sa.n sa.c) := t.fb.cell (by omega) t.fa
theorem Tab.ch (t : Tab h B w b st wt f sd sa sh sq) : World.cell? w ⟨b, 100, none⟩ = some (.slice sh.a sh.n sh.c) := t.fb.cell (by omega) t.fh
theorem Tab.cq (t : Tab h B w b st wt f sd sa sh sq) {x : Nat} (hx : x < 7) : World.cell? w ⟨b, 85 + x, none⟩ = some (.slice (sq x).a (sq x).n (sq x).c) := t.fb.cell (by omega) (t.fq x hx)
theorem Tab.cwt (t : Tab h B w b st wt f sd sa sh sq) {x : Nat} (hx : x < 7) : World.cell? w ⟨b, 92 + x, none⟩ = some (.bool (wt x)) := t.fb.cell (by omega) (t.fw x hx)
theorem Tab.cs (t : Tab h B w b st wt f sd sa sh sq) {x i : Nat} (hx : x < 7) (hi : i < 6) : World.cell? w ⟨b, 1 + x * 6 + i, none⟩ = some (.bool (st.sh x i)) := t.fb.cell (by omega) (t.fs x i hx hi)
theorem Tab.co (t : Tab h B w b st wt f sd sa sh sq) {x i : Nat} (hx : x < 7) (hi : i < 6) : World.cell? w ⟨b, 43 + x * 6 + i, none⟩ = some (.bool (st.ex x i)) := t.fb.cell (by omega) (t.fo x i hx hi)
/-- The wait is set. -/
theorem Tab.setW (t : Tab h B w b st wt f sd sa sh sq) {x : Nat} (hx : x < 7) (c : Bool) : StoreOk w b (92 + x) [.bool c] 1 ∧ Tab h B (VC.put w b (92 + x) [.bool c]) b st (fun y => if y = x then c else wt y) (updF f (92 + x) [.bool c]) sd sa sh sq ∧ Fr (fun y => y = b) w (VC.put w b (92 + x) [.bool c]) := by
  refine ⟨t.fb.storeOk rfl (by simp [Value.oneCell']) (by omega), t.put (by simp; omega) rfl rfl rfl (by omega) (by simp; omega) (fun y i hy hi => ?_) (fun y i hy hi => ?_) (fun y hy => ?_)⟩
  · rw [updF_out (.inl (by omega))]; exact t.fs y i hy hi
  · rw [updF_out (.inl (by omega))]; exact t.fo y i hy hi
  · by_cases e : y = x
    · subst e; rw [if_pos rfl]; exact updF_in (Nat.le_refl _) (by simp)
    · rw [if_neg e, updF_out (by simp; omega)]; exact t.fw y hy
theorem txn_nat {o : Ev} (ho : okOp o) : ∃ n : Nat, o.t = (n : Int) ∧ 1 ≤ n ∧ n < 7 := by
  unfold okOp at ho
  exact ⟨o.t.toNat, by omega, by omega, by omega⟩

theorem c80 (t : Tab h B w b st wt f sd sa sh sq) {o : Ev} (ho : okOp o) :
    Calls Try.prog 80 [.pointer (some ⟨b, 0, none⟩), .agg [.int .i64 o.t, .int .i64 o.k, .int .i64 o.i].toArray].toArray w fun e w' =>
      ∃ s : Sl, e = .returned (.slice s.a s.n s.c) ∧ Own 3 1 eI w.heap.size w' s (six.filter (hind st o)) ∧ Ext w w' := by
  refine (call80 ⟨b, 0⟩ o.t o.k o.i (R := fun v w' => ∃ s : Sl, v = (.slice s.a s.n s.c) ∧ Own 3 1 eI w.heap.size w' s (six.filter (hind st o)) ∧ Ext w w') ?_).mono fun e w' ⟨v, he, s, hv, hx⟩ => ⟨s, by rw [he, hv], hx⟩
  obtain ⟨n, hni, hn6⟩ := item_nat ho
  obtain ⟨hb1, hx1⟩ := newEv w o 37
  refine Let.intro fun w1 e1 => ?_
  have hb1 : Blk w1 w.heap.size (eO o) 37 := by rw [e1]; exact hb1
  have hx1 : Ext w w1 := by rw [e1]; exact hx1
  have z1 := hx1.size
  refine Join.dir (LoopV.intro (fun m (s : Sl) (x : Int) w' => ∃ i : Nat, x = (i : Int) + 1 ∧ i ≤ 6 ∧ m = 6 - i ∧ Own 3 1 eI w.heap.size w' s ((six.take i).filter (hind st o)) ∧ Ext w1 w') 6
    ⟨0, rfl, by omega, by omega, by simpa using Own.nil .., Fr.refl _ _⟩ ?_)
  rintro m s x w3 ⟨i, rfl, hi6, rfl, ho3, hx3⟩
  refine cond_intro (fun hc => ?_) (fun hc => ?_)
  rotate_left
  · have : i = 6 := by have : ¬ (i : Int) + 1 ≤ 6 := by simpa using hc
                       omega
    subst this
    exact ⟨s, rfl, ho3, hx1.trans hx3⟩
  have hi : i < 6 := by have : (i : Int) + 1 ≤ 6 := by simpa using hc
                        omega
  have hsi : i < six.length := by simpa [six] using hi
  have hsx := six_at hsi
  refine Join.dir ?_
  refine ⟨fun (c : Bool) w5 => c = hind st o ((i : Int) + 1) ∧ Ext w3 w5, ?_, ?_⟩
  · rintro c w5 ⟨rfl, hx5⟩
    have ho5 := ho3.ext hx5
    have hstep := filter_step (h := six) (p := hind st o) hsi
    rw [hsx] at hstep
    have hwr : IntKind.wrap .i64 ((i : Int) + 1 + 1) = ((i + 1 : Nat) : Int) + 1 := by rw [wrap64 (by omega) (by omega)]; omega
    refine Join.dir (cond_intro (fun hc => ?_) (fun hc => ?_))
    · have hlen : ((six.take i).filter (hind st o)).length ≤ 1000000 := Nat.le_trans (List.length_filter_le ..) (by simp; omega)
      obtain ⟨s1, w9, e9, s2, w10, e10, ho2, hf⟩ := appendInt ho5 ((i : Int) + 1) hlen (by have := hx3.size; have := hx5.size; omega)
      refine ⟨s1, w9, e9, s2, w10, e10, 6 - (i + 1), by omega, i + 1, hwr, by omega, rfl, ?_, ?_⟩
      · rw [hstep, if_pos hc]; exact ho2
      · exact (hx3.trans hx5).newer hf fun y ⟨a, ha, hy⟩ => by
          obtain ⟨g1, g2⟩ := ho5.base ha
          rcases Nat.lt_or_ge y w1.heap.size with hlt | hge
          · exfalso
            have hyw : y = w.heap.size := by
              have : w1.heap.size = w.heap.size + 1 := by rw [e1]; simp
              omega
            obtain ⟨cur, hcur⟩ := ho5.blk ha
            rw [hy, hyw] at hcur
            exact Blk.ne_ty hcur ((hb1.ext hx3).ext hx5) (by decide) rfl
          · exact hge
    · refine ⟨6 - (i + 1), by omega, i + 1, hwr, by omega, rfl, ?_, hx3.trans hx5⟩
      rw [hstep, if_neg (by rw [hc]; simp), List.append_nil]; exact ho5
  · refine Let.intro fun w9 e9 => ?_
    have hx9 : Ext w3 w9 := by rw [e9]; exact Ext.drew _
    have hb9 := (hb1.ext hx3).ext hx9
    have t9 := t.ext ((hx1.trans hx3).trans hx9)
    have hidx : ∀ c : Nat, 0 + c + Int.toNat ((i : Int) + 1) * 6 + Int.toNat o.i * 1 = c + (i + 1) * 6 + n := fun c => by rw [hni]; simp
    have hcast : (((i + 1 : Nat)) : Int) = (i : Int) + 1 := by omega
    have hce : World.cell? w9 ⟨b, 0 + 43 + Int.toNat ((i : Int) + 1) * 6 + Int.toNat o.i * 1, none⟩ = some (.bool (st.ex ((i : Int) + 1) o.i)) := by
      rw [hidx, hni, ← hcast]; exact t9.co (by omega) hn6
    have hcs : World.cell? w9 ⟨b, 0 + 1 + Int.toNat ((i : Int) + 1) * 6 + Int.toNat o.i * 1, none⟩ = some (.bool (st.sh ((i : Int) + 1) o.i)) := by
      rw [hidx, hni, ← hcast]; exact t9.cs (by omega) hn6
    refine ⟨o.t, hb9.cell 0, cond_intro (fun hc1 => ?_) (fun hc1 => ?_)⟩
    rotate_left
    · have : (i : Int) + 1 = o.t := by simpa using hc1
      exact ⟨by unfold hind; simp [this], hx9⟩
    have hne : (i : Int) + 1 ≠ o.t := by simpa using hc1
    have hshared : o.k = 1 → ∃ x38 : Int, World.cell? w9 ⟨w.heap.size, 0 + 2, none⟩ = some (.int .i64 x38) ∧ 0 ≤ (i : Int) + 1 ∧ (i : Int) + 1 < ((7 : Nat) : Int) ∧ 0 ≤ x38 ∧ x38 < ((6 : Nat) : Int) ∧ ∃ b43 : Bool, World.cell? w9 ⟨b, 0 + 1 + Int.toNat ((i : Int) + 1) * 6 + Int.toNat x38 * 1, none⟩ = some (.bool b43) ∧ b43 = st.sh ((i : Int) + 1) o.i := fun _ =>
      ⟨o.i, hb9.cell 2, by omega, by omega, by omega, by omega, _, hcs, rfl⟩
    refine ⟨o.k, hb9.cell 1, cond_intro (fun hc2 => ?_) (fun hc2 => ?_)⟩
    · have hk2 : o.k < 2 := by simpa using hc2
      refine ⟨o.i, hb9.cell 2, by omega, by omega, by omega, by omega, _, hce, cond_intro (fun hc3 => ?_) (fun hc3 => ?_)⟩
      · exact ⟨by unfold hind; simp [hne, hk2, hc3], hx9⟩
      · refine ⟨o.k, hb9.cell 1, cond_intro (fun hc4 => ?_) (fun hc4 => ?_)⟩
        · have hk1 : o.k = 1 := by simpa using hc4
          obtain ⟨x38, a1, a2, a3, a4, a5, b43, a6, a7⟩ := hshared hk1
          exact ⟨x38, a1, a2, a3, a4, a5, b43, a6, by rw [a7]; unfold hind; simp [hne, hc3, hk1], hx9⟩
        · have hk1 : o.k ≠ 1 := by simpa using hc4
          exact ⟨by unfold hind; simp [hc3, hk1], hx9⟩
    · have hk2 : ¬ o.k < 2 := by simpa using hc2
      refine ⟨o.k, hb9.cell 1, cond_intro (fun hc4 => ?_) (fun hc4 => ?_)⟩
      · have hk1 : o.k = 1 := by simpa using hc4
        omega
      · have hk1 : o.k ≠ 1 := by simpa using hc4
        exact ⟨by unfold hind; simp [hk2, hk1], hx9⟩
end
end Go.Proofs.Ytnbkihkdfhjlmaa
/-
  Contracts of the reference's locks: releasing, doing an operation; how its state changes in memory.
-/
namespace Go.Proofs.Ytnbkihkdfhjlmaa
open Go Go.VC
set_option maxHeartbeats 1000000
set_option maxRecDepth 100000

section
variable {h : List Ev} {B : Nat} {w w' : World} {b : Nat} {st : LS} {wt : Nat → Bool} {f : Nat → Value} {sd sa sh : Sl} {sq : Nat → Sl}
theorem Tab.congr (t : Tab h B w b st wt f sd sa sh sq) {st' : LS} {wt' : Nat → Bool} (h1 : st'.dn = st.dn) (h2 : st'.ab = st.ab) (h3 : st'.q = st.q) (h4 : ∀ x i : Nat, x < 7 → i < 6 → st'.sh x i = st.sh x i) (h5 : ∀ x i : Nat, x < 7 → i < 6 → st'.ex x i = st.ex x i) (h6 : ∀ x, x < 7 → wt' x = wt x) : Tab h B w b st' wt' f sd sa sh sq :=
  ⟨t.fb, t.base, t.fd, fun x i hx hi => by rw [h4 x i hx hi]; exact t.fs x i hx hi, fun x i hx hi => by rw [h5 x i hx hi]; exact t.fo x i hx hi, t.fq, fun x hx => by rw [h6 x hx]; exact t.fw x hx, t.fa, t.fh, by rw [h1]; exact t.od, by rw [h2]; exact t.oa, fun x hx => by rw [h3]; exact t.tl x hx, t.sep, t.sepa, t.hs, t.hB⟩
theorem rm_cells (t : Tab h B w b st wt f sd sa sh sq) {x : Nat} (hx : x < 7) {g : Nat} (hg : Rm (sq x) g) : B ≤ g ∧ g < w.heap.size ∧ ∃ cur, Blk w g cur 3 := (t.tl x hx).base hg
/-- Slices change in their own rows, and one of them is laid anew. -/
theorem Tab.setD (t : Tab h B w b st wt f sd sa sh sq) {w1 w2 : World} (hx : Ext w w1) (hf : Fr (Bl sd) w1 w2) {s' : Sl} {l : List Ev} (ho : Own 37 3 eO B w2 s' l) :
    StoreOk w2 b 0 [.slice s'.a s'.n s'.c] 1 ∧ Tab h B (VC.put w2 b 0 [.slice s'.a s'.n s'.c]) b { st with dn := l } wt (updF f 0 [.slice s'.a s'.n s'.c]) s' sa sh sq ∧ Fr (fun y => y = b) w2 (VC.put w2 b 0 [.slice s'.a s'.n s'.c]) := by
  have t1 := t.ext hx
  have hblk : ∀ y, Bl sd y → B ≤ y ∧ ∃ cur, Blk w1 y cur 37 := fun y ⟨a, ha, hy⟩ => by rw [← hy]; exact ⟨(t1.od.base ha).1, t1.od.blk ha⟩
  have hfb : FB w2 b 101 f 99 := t1.fb.fr hf fun hy => by obtain ⟨_, cur, hc⟩ := hblk _ hy; exact Blk.ne_ty hc t1.fb (by decide) rfl
  have ha2 : Own 3 1 eI B w2 sa st.ab := t1.oa.fr hf fun a ha hy => by
    obtain ⟨_, cur, hc⟩ := hblk _ hy
    obtain ⟨cur', hc'⟩ := t1.oa.blk ha
    exact Blk.ne_ty hc hc' (by decide) rfl
  have ht2 : ∀ x, x < 7 → Tl 3 1 eI B w2 (sq x) ((st.q x).map jI) := fun x hx7 => (t1.tl x hx7).fr hf fun g hg hy => by
    obtain ⟨_, cur, hc⟩ := hblk _ hy
    obtain ⟨_, _, cur', hc'⟩ := (t1.tl x hx7).base hg
    exact Blk.ne_ty hc hc' (by decide) rfl
  have hh2 : Hs w2 sh h := t1.hsFr hf fun y hy => (hblk y hy).1
  have fr : Fr (fun y => y = b) w2 (VC.put w2 b 0 [.slice s'.a s'.n s'.c]) := Fr.put ..
  have hup : ∀ {j : Nat} {v : Value}, 1 ≤ j → f j = v → updF f 0 [.slice s'.a s'.n s'.c] j = v := fun hj hv => by rw [updF_out (.inr (by simp; omega))]; exact hv
  refine ⟨hfb.storeOk rfl (by simp [Value.oneCell']) (by omega), ⟨hfb.put (by simp), t.base, updF_in (Nat.le_refl _) (by simp [kS]), fun x i hx hi => hup (by omega) (t.fs x i hx hi), fun x i hx hi => hup (by omega) (t.fo x i hx hi), fun x hx => hup (by omega) (t.fq x hx), fun x hx => hup (by omega) (t.fw x hx), hup (by omega) t.fa, hup (by omega) t.fh, ?_, ?_, fun x hx7 => ?_, t.sep, t.sepa, ?_, t.hB⟩, fr⟩
  · exact ho.fr fr fun a ha e => by obtain ⟨cur, hc⟩ := ho.blk ha; exact Blk.ne_ty hc hfb (by decide) e
  · exact ha2.fr fr fun a ha e => by obtain ⟨cur, hc⟩ := ha2.blk ha; exact Blk.ne_ty hc hfb (by decide) e
  · exact (ht2 x hx7).fr fr fun g hg e => by obtain ⟨_, _, cur, hc⟩ := (ht2 x hx7).base hg; exact Blk.ne_ty hc hfb (by decide) e
  · by_cases hl : h = []
    · subst hl; exact ⟨t.hs.len, t.hs.cap, fun h => absurd rfl h⟩
    · exact hh2.fr fr fun a ha e => by have := t.hB a hl ha; have := t.base; omega
theorem Tab.setA (t : Tab h B w b st wt f sd sa sh sq) {w1 w2 : World} (hx : Ext w w1) (hf : Fr (Bl sa) w1 w2) {s' : Sl} {l : List Int} (ho : Own 3 1 eI B w2 s' l) (hwh : ∀ g, Bl s' g → Bl sa g ∨ w.heap.size ≤ g) :
    StoreOk w2 b 99 [.slice s'.a s'.n s'.c] 1 ∧ Tab h B (VC.put w2 b 99 [.slice s'.a s'.n s'.c]) b { st with ab := l } wt (updF f 99 [.slice s'.a s'.n s'.c]) sd s' sh sq ∧ Fr (fun y => y = b) w2 (VC.put w2 b 99 [.slice s'.a s'.n s'.c]) := by
  have t1 := t.ext hx
  have hblk : ∀ y, Bl sa y → B ≤ y ∧ ∃ cur, Blk w1 y cur 3 := fun y ⟨a, ha, hy⟩ => by rw [← hy]; exact ⟨(t1.oa.base ha).1, t1.oa.blk ha⟩
  have hfb : FB w2 b 101 f 99 := t1.fb.fr hf fun hy => by obtain ⟨_, cur, hc⟩ := hblk _ hy; exact Blk.ne_ty hc t1.fb (by decide) rfl
  have ha2 : Own 37 3 eO B w2 sd st.dn := t1.od.fr hf fun a ha hy => by
    obtain ⟨_, cur, hc⟩ := hblk _ hy
    obtain ⟨cur', hc'⟩ := t1.od.blk ha
    exact Blk.ne_ty hc hc' (by decide) rfl
  have ht2 : ∀ x, x < 7 → Tl 3 1 eI B w2 (sq x) ((st.q x).map jI) := fun x hx7 => (t1.tl x hx7).fr hf fun g hg hy => t.sepa x hx7 g hg hy
  have hh2 : Hs w2 sh h := t1.hsFr hf fun y hy => (hblk y hy).1
  have fr : Fr (fun y => y = b) w2 (VC.put w2 b 99 [.slice s'.a s'.n s'.c]) := Fr.put ..
  have hup : ∀ {j : Nat} {v : Value}, j ≠ 99 → f j = v → updF f 99 [.slice s'.a s'.n s'.c] j = v := fun hj hv => by rw [updF_out (by simp; omega)]; exact hv
  refine ⟨hfb.storeOk rfl (by simp [Value.oneCell']) (by omega), ⟨hfb.put (by simp), t.base, hup (by omega) t.fd, fun x i hx hi => hup (by omega) (t.fs x i hx hi), fun x i hx hi => hup (by omega) (t.fo x i hx hi), fun x hx => hup (by omega) (t.fq x hx), fun x hx => hup (by omega) (t.fw x hx), updF_in (Nat.le_refl _) (by simp [kS]), hup (by omega) t.fh, ?_, ?_, fun x hx7 => ?_, t.sep, fun x hx7 g hg hb => ?_, ?_, t.hB⟩, fr⟩
  · exact ha2.fr fr fun a ha e => by obtain ⟨cur, hc⟩ := ha2.blk ha; exact Blk.ne_ty hc hfb (by decide) e
  · exact ho.fr fr fun a ha e => by obtain ⟨cur, hc⟩ := ho.blk ha; exact Blk.ne_ty hc hfb (by decide) e
  · exact (ht2 x hx7).fr fr fun g hg e => by obtain ⟨_, _, cur, hc⟩ := (ht2 x hx7).base hg; exact Blk.ne_ty hc hfb (by decide) e
  · rcases hwh g hb with h1 | h1
    · exact t.sepa x hx7 g hg h1
    · have := (rm_cells t hx7 hg).2.1; omega
  · by_cases hl : h = []
    · subst hl; exact ⟨t.hs.len, t.hs.cap, fun h => absurd rfl h⟩
    · exact hh2.fr fr fun a ha e => by have := t.hB a hl ha; have := t.base; omega
theorem Tab.setQ (t : Tab h B w b st wt f sd sa sh sq) {x : Nat} (hx7 : x < 7) {w2 : World} (hf : Fr (Rm (sq x)) w w2) {s' : Sl} {l : List Nat} (ho : Tl 3 1 eI B w2 s' (l.map jI)) (hsep : ∀ y, y < 7 → y ≠ x → ∀ g, Rm s' g → ¬ Rm (sq y) g) (hsepa : ∀ g, Rm s' g → ¬ Bl sa g) :
    StoreOk w2 b (85 + x) [.slice s'.a s'.n s'.c] 1 ∧ Tab h B (VC.put w2 b (85 + x) [.slice s'.a s'.n s'.c]) b (setq st x l) wt (updF f (85 + x) [.slice s'.a s'.n s'.c]) sd sa sh (fun y => if y = x then s' else sq y) ∧ Fr (fun y => y = b) w2 (VC.put w2 b (85 + x) [.slice s'.a s'.n s'.c]) := by
  have hblk : ∀ y, Rm (sq x) y → B ≤ y ∧ ∃ cur, Blk w y cur 3 := fun y hy => ⟨(rm_cells t hx7 hy).1, (rm_cells t hx7 hy).2.2⟩
  have hfb : FB w2 b 101 f 99 := t.fb.fr hf fun hy => by obtain ⟨_, cur, hc⟩ := hblk _ hy; exact Blk.ne_ty hc t.fb (by decide) rfl
  have od2 : Own 37 3 eO B w2 sd st.dn := t.od.fr hf fun a ha hy => by
    obtain ⟨_, cur, hc⟩ := hblk _ hy
    obtain ⟨cur', hc'⟩ := t.od.blk ha
    exact Blk.ne_ty hc hc' (by decide) rfl
  have oa2 : Own 3 1 eI B w2 sa st.ab := t.oa.fr hf fun a ha hy => t.sepa x hx7 _ hy ⟨a, ha, rfl⟩
  have ht2 : ∀ y, y < 7 → y ≠ x → Tl 3 1 eI B w2 (sq y) ((st.q y).map jI) := fun y hy hne => (t.tl y hy).fr hf fun g hg h2 => t.sep y x hy hx7 hne g hg h2
  have hh2 : Hs w2 sh h := t.hsFr hf fun y hy => (hblk y hy).1
  have fr : Fr (fun y => y = b) w2 (VC.put w2 b (85 + x) [.slice s'.a s'.n s'.c]) := Fr.put ..
  have hup : ∀ {j : Nat} {v : Value}, j ≠ 85 + x → f j = v → updF f (85 + x) [.slice s'.a s'.n s'.c] j = v := fun hj hv => by rw [updF_out (by simp; omega)]; exact hv
  refine ⟨hfb.storeOk rfl (by simp [Value.oneCell']) (by omega), ⟨hfb.put (by simp; omega), t.base, hup (by omega) t.fd, fun y i hy hi => hup (by omega) (t.fs y i hy hi), fun y i hy hi => hup (by omega) (t.fo y i hy hi), fun y hy => ?_, fun y hy => hup (by omega) (t.fw y hy), hup (by omega) t.fa, hup (by omega) t.fh, ?_, ?_, fun y hy => ?_, fun y z hy hz hne g h1 h2 => ?_, fun y hy g hg hb => ?_, ?_, t.hB⟩, fr⟩
  · by_cases e : y = x
    · subst e; rw [if_pos rfl]; exact updF_in (Nat.le_refl _) (by simp [kS])
    · rw [if_neg e]; exact hup (by omega) (t.fq y hy)
  · exact od2.fr fr fun a ha e => by obtain ⟨cur, hc⟩ := od2.blk ha; exact Blk.ne_ty hc hfb (by decide) e
  · exact oa2.fr fr fun a ha e => by obtain ⟨cur, hc⟩ := oa2.blk ha; exact Blk.ne_ty hc hfb (by decide) e
  · rw [setq_q]
    by_cases e : y = x
    · subst e
      rw [if_pos rfl, upq_same]
      exact ho.fr fr fun g hg e => by obtain ⟨_, _, cur, hc⟩ := ho.base hg; exact Blk.ne_ty hc hfb (by decide) e
    · rw [if_neg e, upq_other (by omega)]
      exact (ht2 y hy e).fr fr fun g hg e' => by obtain ⟨_, _, cur, hc⟩ := (ht2 y hy e).base hg; exact Blk.ne_ty hc hfb (by decide) e'
  · by_cases e : y = x
    · rw [if_pos e] at h1
      rw [if_neg (by omega)] at h2
      exact hsep z hz (by omega) g h1 h2
    · rw [if_neg e] at h1
      by_cases e' : z = x
      · rw [if_pos e'] at h2
        exact hsep y hy e g h2 h1
      · rw [if_neg e'] at h2
        exact t.sep y z hy hz hne g h1 h2
  · by_cases e : y = x
    · rw [if_pos e] at hg; exact hsepa g hg hb
    · rw [if_neg e] at hg; exact t.sepa y hy g hg hb
  · by_cases hl : h = []
    · subst hl; exact ⟨t.hs.len, t.hs.cap, fun h => absurd rfl h⟩
    · exact hh2.fr fr fun a ha e => by have := t.hB a hl ha; have := t.base; omega

theorem c94 (t : Tab h B w b st wt f sd sa sh sq) {x : Int} {n : Nat} (hxn : x = (n : Int)) (hn : n < 7) :
    Calls Try.prog 94 [.pointer (some ⟨b, 0, none⟩), .int .i64 x].toArray w fun e w' => e = .returned (.tuple [].toArray) ∧ (∃ f', Tab h B w' b { st with sh := relL st.sh x, ex := relL st.ex x } wt f' sd sa sh sq) ∧ Fr (fun y => y = b) w w' := by
  refine (call94 ⟨b, 0⟩ x (R := fun v w' => v = .tuple [].toArray ∧ (∃ f', Tab h B w' b { st with sh := relL st.sh x, ex := relL st.ex x } wt f' sd sa sh sq) ∧ Fr (fun y => y = b) w w') ?_).mono fun e w' ⟨v, he, hv, hx⟩ => ⟨by rw [he, hv], hx⟩
  refine Let.intro fun w1 e1 => ?_
  have hx1 : Ext w w1 := by rw [e1]; exact Ext.drew _
  have t1 := t.ext hx1
  have hi1 : 0 + 1 + Int.toNat x * 6 = 1 + n * 6 := by rw [hxn]; simp
  have hi2 : 0 + 43 + Int.toNat x * 6 = 43 + n * 6 := by rw [hxn]; simp
  have hsix : ∀ {g : Nat → Value} {o k : Nat}, o ≤ k → k < o + 6 → updF g o [.bool false, .bool false, .bool false, .bool false, .bool false, .bool false] k = .bool false := fun {g o k} h1 h2 => by
    refine updF_in h1 ?_
    have : k - o = 0 ∨ k - o = 1 ∨ k - o = 2 ∨ k - o = 3 ∨ k - o = 4 ∨ k - o = 5 := by omega
    rcases this with e | e | e | e | e | e <;> rw [e] <;> rfl
  have hst1 := t1.fb.storeOk (o := 1 + n * 6) (k := 6) (vs := [.bool false, .bool false, .bool false, .bool false, .bool false, .bool false]) rfl (by simp [Value.oneCell']) (by omega)
  have hoth : ∀ {y : Nat}, y ≠ n → decide ((y : Int) ≠ x) = true := fun {y} hy => by rw [hxn]; simpa using fun e => hy (by omega)
  obtain ⟨t2, f2⟩ := t1.put (o := 1 + n * 6) (vs := [.bool false, .bool false, .bool false, .bool false, .bool false, .bool false]) (by simp; omega) (st' := { st with sh := relL st.sh x }) (wt' := wt) rfl rfl rfl (by omega) (by simp; omega)
    (fun y i hy hi => by
      simp only [relL]
      by_cases e : y = n
      · subst e
        rw [hsix (by omega) (by omega)]; simp [hxn]
      · rw [updF_out (by simp; omega), hoth e]; exact t1.fs y i hy hi)
    (fun y i hy hi => by rw [updF_out (by simp; omega)]; exact t1.fo y i hy hi)
    (fun y hy => by rw [updF_out (by simp; omega)]; exact t1.fw y hy)
  refine ⟨by omega, by omega, ?_, Let.intro fun w2 e2 => ?_⟩
  · show StoreOk w1 b (0 + 1 + Int.toNat x * 6) _ 6
    rw [hi1]; exact hst1
  have e2 : w2 = VC.put w1 b (0 + 1 + Int.toNat x * 6) [.bool false, .bool false, .bool false, .bool false, .bool false, .bool false] := e2
  rw [hi1] at e2
  rw [← e2] at t2 f2
  have hst2 := t2.fb.storeOk (o := 43 + n * 6) (k := 6) (vs := [.bool false, .bool false, .bool false, .bool false, .bool false, .bool false]) rfl (by simp [Value.oneCell']) (by omega)
  obtain ⟨t3, f3⟩ := t2.put (o := 43 + n * 6) (vs := [.bool false, .bool false, .bool false, .bool false, .bool false, .bool false]) (by simp; omega) (st' := { st with sh := relL st.sh x, ex := relL st.ex x }) (wt' := wt) rfl rfl rfl (by omega) (by simp; omega)
    (fun y i hy hi => by rw [updF_out (by simp; omega)]; exact t2.fs y i hy hi)
    (fun y i hy hi => by
      simp only [relL]
      by_cases e : y = n
      · subst e
        rw [hsix (by omega) (by omega)]; simp [hxn]
      · rw [updF_out (by simp; omega), hoth e]; exact t2.fo y i hy hi)
    (fun y hy => by rw [updF_out (by simp; omega)]; exact t2.fw y hy)
  refine ⟨by omega, by omega, ?_, Let.intro fun w3 e3 => ⟨rfl, ?_, ?_⟩⟩
  · show StoreOk w2 b (0 + 43 + Int.toNat x * 6) _ 6
    rw [hi2]; exact hst2
  · have e3 : w3 = VC.put w2 b (0 + 43 + Int.toNat x * 6) [.bool false, .bool false, .bool false, .bool false, .bool false, .bool false] := e3
    rw [hi2] at e3
    rw [e3]; exact ⟨_, t3⟩
  · have e3 : w3 = VC.put w2 b (0 + 43 + Int.toNat x * 6) [.bool false, .bool false, .bool false, .bool false, .bool false, .bool false] := e3
    rw [hi2] at e3
    rw [e3]; exact (Ext.fr hx1 f2).trans f3 fun _ _ h => h

theorem c82 (t : Tab h B w b st wt f sd sa sh sq) {o : Ev} (ho : okOp o) (hl : st.dn.length ≤ 1000) :
    Calls Try.prog 82 [.pointer (some ⟨b, 0, none⟩), .agg [.int .i64 o.t, .int .i64 o.k, .int .i64 o.i].toArray].toArray w fun e w' => e = .returned (.tuple [].toArray) ∧ (∃ f' sd', Tab h B w' b (doL st o) wt f' sd' sa sh sq) ∧ Fr (fun y => B ≤ y) w w' := by
  refine (call82 ⟨b, 0⟩ o.t o.k o.i (R := fun v w' => v = .tuple [].toArray ∧ (∃ f' sd', Tab h B w' b (doL st o) wt f' sd' sa sh sq) ∧ Fr (fun y => B ≤ y) w w') ?_).mono fun e w' ⟨v, he, hv, hx⟩ => ⟨by rw [he, hv], hx⟩
  obtain ⟨n, hni, hn6⟩ := item_nat ho
  obtain ⟨m, hmt, hm1, hm7⟩ := txn_nat ho
  have hok := ho
  unfold okOp at hok
  obtain ⟨hb1, hx1⟩ := newEv w o 37
  refine Let.intro fun w1 e1 => ?_
  have hb1 : Blk w1 w.heap.size (eO o) 37 := by rw [e1]; exact hb1
  have hx1 : Ext w w1 := by rw [e1]; exact hx1
  have t1 := t.ext hx1
  have hBw := t.hBw
  have hl1 := hb1.lt
  refine ⟨fun u => World.cell? u ⟨b, 0, none⟩ = some (.slice sd.a sd.n sd.c) ∧ rd u w.heap.size 0 (eO o), ⟨(t1.ext (Ext.drew _)).cd, (hb1.ext (Ext.drew _)).rd⟩, Let.intro fun w2 e2 => ?_⟩
  have hx2 : Ext w1 w2 := by rw [e2]; exact Ext.drew _
  have t2 := t1.ext hx2
  have hb2 := hb1.ext hx2
  have z2 := hx2.size
  obtain ⟨s1, w3, e3, hx3, s2, w4, e4, ho4, hf4⟩ := appEv E23 t2.od o (by show st.dn.length ≤ 1000000; omega) t2.hBw
  have z3 := hx3.size
  obtain ⟨d5, t5, f5⟩ := t2.setD hx3 hf4 ho4
  have hsdlt : ∀ y, Bl sd y → y < w.heap.size ∧ B ≤ y := fun y ⟨a, ha, hy⟩ => by have := t.od.base ha; omega
  have hb4 : Blk w4 w.heap.size (eO o) 37 := (hb2.ext hx3).fr hf4 fun h => by have := hsdlt _ h; omega
  have hcd4 : World.cell? w4 ⟨b, 0, none⟩ = some (.slice sd.a sd.n sd.c) := by
    refine hf4.cell (a := ⟨b, 0, none⟩) (fun ⟨a, ha, hy⟩ => ?_) (t2.ext hx3).cd
    obtain ⟨cur, hc⟩ := t2.od.blk ha
    rw [hy] at hc
    exact Blk.ne_ty hc t2.fb (by decide) rfl
  refine ⟨sd, fun u hu => hu.1, o.t, o.k, o.i, fun u hu => hu.2, s1, w3, e3, ⟨(t2.ext hx3).cd, (hb2.ext hx3).rd⟩, s2, w4, e4, ⟨hcd4, hb4.rd⟩, d5, Let.intro fun w5 e5 => ?_⟩
  have e5 : w5 = VC.put w4 b 0 [.slice s2.a s2.n s2.c] := e5
  rw [← e5] at t5 f5
  have hbB := t.base
  have hbne : w.heap.size ≠ b := by have := t.fb.lt; omega
  have hb5 := hb4.fr f5 hbne
  have hfr5 : Fr (fun y => B ≤ y) w w5 := (Ext.fr ((hx1.trans hx2).trans hx3) (hf4.mono fun y _ hy => (hsdlt y hy).2)).trans f5 fun y _ (hy : y = b) => by omega
  have hidx : ∀ c : Nat, 0 + c + Int.toNat o.t * 6 + Int.toNat o.i * 1 = c + m * 6 + n := fun c => by rw [hmt, hni]; simp
  refine ⟨o.k, hb5.cell 1, Join.dir (Join.dir (cond_intro (fun hc => ?_) (fun hc => Join.dir (cond_intro (fun hc2 => ?_) (fun hc2 => ?_)))))⟩
  · have hk0 : o.k = 0 := by simpa using hc
    refine Let.intro fun w8 e8 => ?_
    have hx8 : Ext w5 w8 := by rw [e8]; exact Ext.drew _
    have t8 := t5.ext hx8
    have hb8 := hb5.ext hx8
    have hst := t8.fb.storeOk (o := 1 + m * 6 + n) (k := 1) (vs := [.bool true]) rfl (by simp [Value.oneCell']) (by omega)
    obtain ⟨t9, f9⟩ := t8.put (o := 1 + m * 6 + n) (vs := [.bool true]) (by simp; omega) (st' := doL st o) (wt' := wt) rfl rfl rfl (by omega) (by simp; omega)
      (fun y i hy hi => by
        rw [(doL_sh0 hk0).1]
        simp only [getL]
        by_cases e : y = m ∧ i = n
        · rw [e.1, e.2, updF_in (Nat.le_refl _) (v := .bool true) (by simp)]; simp [hmt, hni]
        · rw [updF_out (by simp; omega), t8.fs y i hy hi]
          have : (decide ((y : Int) = o.t) && decide ((i : Int) = o.i)) = false := by
            rw [hmt, hni]; simp; omega
          simp only [this, Bool.or_false])
      (fun y i hy hi => by rw [(doL_sh0 hk0).2, updF_out (by simp; omega)]; exact t8.fo y i hy hi)
      (fun y hy => by rw [updF_out (by simp; omega)]; exact t8.fw y hy)
    refine ⟨o.t, hb8.cell 0, o.i, hb8.cell 2, by omega, by omega, by omega, by omega, ?_, Let.intro fun w9 e9 => ⟨rfl, ?_, ?_⟩⟩
    · show StoreOk w8 b (0 + 1 + Int.toNat o.t * 6 + Int.toNat o.i * 1) _ 1
      rw [hidx]; exact hst
    · have e9 : w9 = VC.put w8 b (0 + 1 + Int.toNat o.t * 6 + Int.toNat o.i * 1) [.bool true] := e9
      rw [hidx] at e9
      rw [e9]; exact ⟨_, _, t9⟩
    · have e9 : w9 = VC.put w8 b (0 + 1 + Int.toNat o.t * 6 + Int.toNat o.i * 1) [.bool true] := e9
      rw [hidx] at e9
      rw [e9]; exact (hfr5.ext hx8).trans f9 fun y _ (hy : y = b) => by omega
  · have hk1 : o.k = 1 := by simpa using hc2
    refine Let.intro fun w8 e8 => ?_
    have hx8 : Ext w5 w8 := by rw [e8]; exact Ext.drew _
    have t8 := t5.ext hx8
    have hb8 := hb5.ext hx8
    have hst := t8.fb.storeOk (o := 43 + m * 6 + n) (k := 1) (vs := [.bool true]) rfl (by simp [Value.oneCell']) (by omega)
    obtain ⟨t9, f9⟩ := t8.put (o := 43 + m * 6 + n) (vs := [.bool true]) (by simp; omega) (st' := doL st o) (wt' := wt) rfl rfl rfl (by omega) (by simp; omega)
      (fun y i hy hi => by rw [(doL_sh1 hk1).1, updF_out (by simp; omega)]; exact t8.fs y i hy hi)
      (fun y i hy hi => by
        rw [(doL_sh1 hk1).2]
        simp only [getL]
        by_cases e : y = m ∧ i = n
        · rw [e.1, e.2, updF_in (Nat.le_refl _) (v := .bool true) (by simp)]; simp [hmt, hni]
        · rw [updF_out (by simp; omega), t8.fo y i hy hi]
          have : (decide ((y : Int) = o.t) && decide ((i : Int) = o.i)) = false := by
            rw [hmt, hni]; simp; omega
          simp only [this, Bool.or_false])
      (fun y hy => by rw [updF_out (by simp; omega)]; exact t8.fw y hy)
    refine ⟨o.t, hb8.cell 0, o.i, hb8.cell 2, by omega, by omega, by omega, by omega, ?_, Let.intro fun w9 e9 => ⟨rfl, ?_, ?_⟩⟩
    · show StoreOk w8 b (0 + 43 + Int.toNat o.t * 6 + Int.toNat o.i * 1) _ 1
      rw [hidx]; exact hst
    · have e9 : w9 = VC.put w8 b (0 + 43 + Int.toNat o.t * 6 + Int.toNat o.i * 1) [.bool true] := e9
      rw [hidx] at e9
      rw [e9]; exact ⟨_, _, t9⟩
    · have e9 : w9 = VC.put w8 b (0 + 43 + Int.toNat o.t * 6 + Int.toNat o.i * 1) [.bool true] := e9
      rw [hidx] at e9
      rw [e9]; exact (hfr5.ext hx8).trans f9 fun y _ (hy : y = b) => by omega
  · have hk : 1 < o.k := by simp at hc hc2; omega
    refine ⟨o.t, hb5.cell 0, (c94 t5 hmt hm7).mono fun e w6 ⟨he, ⟨f', t6⟩, f6⟩ => ⟨he, rfl, ⟨f', s2, ?_⟩, hfr5.trans f6 fun y _ (hy : y = b) => by omega⟩⟩
    refine t6.congr rfl rfl rfl (fun x i _ _ => ?_) (fun x i _ _ => ?_) fun _ _ => rfl
    · rw [(doL_sh2 hk).1]
    · rw [(doL_sh2 hk).2]
end
end Go.Proofs.Ytnbkihkdfhjlmaa
/-
  Contract of the reference: is a transaction caught in a circle of waits.
-/
namespace Go.Proofs.Ytnbkihkdfhjlmaa
open Go Go.VC
set_option maxHeartbeats 1000000
set_option maxRecDepth 100000

theorem six_nat {x : Int} (hx : x ∈ six) : ∃ n : Nat, x = (n : Int) ∧ 1 ≤ n ∧ n < 7 := by
  obtain ⟨h1, h2⟩ := mem_six.1 hx
  exact ⟨x.toNat, by omega, by omega, by omega⟩
theorem filter_hit {st : LS} {o : Ev} : (six.filter (hind st o)).length > 0 ↔ hit st o = true := by
  unfold hit
  rw [List.any_eq_true]
  constructor
  · intro h0
    obtain ⟨x, hx⟩ := List.exists_mem_of_ne_nil (six.filter (hind st o)) (by intro e; rw [e] at h0; simp at h0)
    obtain ⟨h1, h2⟩ := List.mem_filter.1 hx
    exact ⟨x, h1, h2⟩
  · rintro ⟨x, h1, h2⟩
    exact List.length_pos_of_mem (List.mem_filter.2 ⟨h1, h2⟩)
theorem filter_len {st : LS} {o : Ev} : (six.filter (hind st o)).length ≤ 6 := by
  have := List.length_filter_le (hind st o) six
  simpa [six] using this
section
variable {h : List Ev} {B : Nat} {w w' : World} {b : Nat} {st : LS} {wt : Nat → Bool} {f : Nat → Value} {sd sa sh : Sl} {sq : Nat → Sl}
theorem Tab.qlen (t : Tab h B w b st wt f sd sa sh sq) {x : Nat} (hx : x < 7) : (sq x).n = (st.q x).length := by have := (t.tl x hx).len; simpa using this
/-- The head of a queue, and its operation. -/
theorem Tab.head (t : Tab h B w b st wt f sd sa sh sq) {x : Nat} (hx : x < 7) {j : Nat} {l : List Nat} (hq : st.q x = j :: l) : ∃ p : Pt, (sq x).a = some ⟨p.b, p.o, none⟩ ∧ 0 ≤ (0 : Int) ∧ (0 : Int) < (((sq x).n : Nat) : Int) ∧ World.cell? w ⟨p.b, p.o, none⟩ = some (.int .i64 (j : Int)) := by
  have hs := (t.tl x hx).sli
  rw [hq] at hs
  obtain ⟨p, hp, h1, h2, h3⟩ := Ints.at (i := 0) (show Ints w (sq x) (jI j :: l.map jI) from hs) (by simp)
  exact ⟨p, hp, h1, h2, by simpa [jI] using h3⟩
theorem Tab.op (t : Tab h B w b st wt f sd sa sh sq) {j : Nat} (hj : j < h.length) : ∃ p : Pt, sh.a = some ⟨p.b, p.o, none⟩ ∧ 0 ≤ (j : Int) ∧ (j : Int) < ((sh.n : Nat) : Int) ∧ rd w p.b (p.o + Int.toNat (j : Int) * 3) (eO (opA h j)) := by
  rw [opA_at hj]
  exact Sli.at eO_len t.hs hj
theorem same_pt {a : Option Addr} {p p' : Pt} (h1 : a = some ⟨p.b, p.o, none⟩) (h2 : a = some ⟨p'.b, p'.o, none⟩) : p = p' := by
  rw [h1] at h2
  have e : (⟨p.b, p.o, none⟩ : Addr) = ⟨p'.b, p'.o, none⟩ := Option.some.inj h2
  have e1 : p.b = p'.b := congrArg Addr.block e
  have e2 : p.o = p'.o := congrArg Addr.off e
  cases p; cases p'; simp_all
/-- Who waits. -/
def WT (st : LS) (wt : Nat → Bool) : Prop := ∀ x : Nat, x < 7 → wt x = decide (st.q x ≠ [])

theorem c81 (t : Tab h B w b st wt f sd sa sh sq) (ho : OkH h) (g : Gd h st) (hw : WT st wt) {x : Int} (hx6 : x ∈ six) :
    Calls Try.prog 81 [.pointer (some ⟨b, 0, none⟩), .int .i64 x].toArray w fun e w' => ∃ c : Bool, e = .returned (.bool c) ∧ (c = true ↔ caught h st x) ∧ Ext w w' := by
  refine (call81 ⟨b, 0⟩ x (R := fun v w' => ∃ c : Bool, v = .bool c ∧ (c = true ↔ caught h st x) ∧ Ext w w') ?_).mono fun e w' ⟨v, he, c, hv, hx⟩ => ⟨c, by rw [he, hv], hx⟩
  obtain ⟨n1, n2, n3⟩ := new_var w 97 (z := zc Try.prog 97) (vs := [.bool false, .bool false, .bool false, .bool false, .bool false, .bool false, .bool false]) (by kernel_rfl) (by simp [Value.oneCell'])
  refine Let.intro fun w1 e1 => ?_
  rw [← e1] at n1 n2 n3
  refine ⟨n1, Let.intro fun w2 e2 => ?_⟩
  rw [← e2] at n2 n3
  have hx2 : Ext w w2 := n3
  have z2 := hx2.size
  have hfb2 : FB w2 w.heap.size 7 (fun i => .bool (decide ((i : Int) ∈ ([] : List Int)))) 97 := n2
  have hl2 := hfb2.lt
  have hb := buildOne_run (P := Try.prog) E24 (v := .int .i64 x) (vs := eI x) rfl rfl (by omega) w2
  have hx3 := Ext.alloc w2 (.cells (eI x).toArray 3)
  refine ⟨⟨some ⟨w2.heap.size, 0, none⟩, 1, 1⟩, _, hb, ?_⟩
  have ho3 : Own 3 1 eI w2.heap.size (w2.alloc (.cells (eI x).toArray 3)) ⟨some ⟨w2.heap.size, 0, none⟩, 1, 1⟩ [x] := Own.one w2 x rfl
  generalize w2.alloc (.cells (eI x).toArray 3) = w3 at hx3 ho3
  refine Join.dir (LoopV.intro (fun n (s6 : Sl) w4 => ∃ S Q, BI (stepL h st) x S Q none ∧ n = 2 * (6 - S.length) + Q.length ∧ n ≤ 13 ∧ Tl 3 1 eI w.heap.size w4 s6 Q ∧ FB w4 w.heap.size 7 (fun i => .bool (decide ((i : Int) ∈ S))) 97 ∧ Ext w w4) 13
    ⟨[], [x], BI.init, by simp, by simp, ho3.tl.mono z2, hfb2.ext hx3, hx2.trans hx3⟩ ?_)
  rintro n s6 w5 ⟨S, Q, hbi, rfl, hn13, htl, hsm, hx5⟩
  have hn6 := htl.len
  have hS6 := hbi.len
  refine cond_intro (fun hc => ?_) (fun hc => ?_)
  rotate_left
  · have hq : Q = [] := List.eq_nil_of_length_eq_zero (by have : ¬ (0 : Int) < (s6.n : Int) := by simpa using hc
                                                          omega)
    subst hq
    exact ⟨false, rfl, by simp; exact hbi.done, hx5⟩
  obtain ⟨y, Q, rfl⟩ : ∃ x Q', Q = x :: Q' := by
    cases Q with
    | nil => simp at hn6; simp [hn6] at hc
    | cons x Q' => exact ⟨x, Q', rfl⟩
  have hys := hbi.at
  have hy6 : y ∈ six := by
    rcases hys with rfl | h1
    · exact hx6
    · exact hbi.rg y h1
  obtain ⟨yn, hyn, hy1, hy7⟩ := six_nat hy6
  obtain ⟨p, hp, a1, a2, hr⟩ := Ints.at (i := 0) (show Ints w5 s6 (y :: Q) from htl.sli) (by simp)
  have hdrop : Tl 3 1 eI w.heap.size w5 ⟨subA s6.a s6.c 1 1, s6.n - 1, s6.c - 1⟩ Q := by
    have := htl.drop eI_len (m := 1) (by simp)
    simpa using this
  have tt := t.ext hx5
  have hcw : World.cell? w5 ⟨b, 0 + 92 + Int.toNat y * 1, none⟩ = some (.bool (wt yn)) := by rw [hyn]; simpa using tt.cwt hy7
  refine Join.dir ⟨p, hp, a1, a2, y, hr, by omega, by omega, by omega, by omega, wt yn, hcw, ?_⟩
  have hwy := hw yn hy7
  refine cond_intro (fun hc2 => ?_) (fun hc2 => ?_)
  · have hq : st.q y = [] := by rw [hwy] at hc2; simp at hc2; rw [hyn]; exact hc2
    exact ⟨2 * (6 - S.length) + Q.length, by simp, S, Q, hbi.pop.close fun z ⟨j, r', hj, _⟩ => (by rw [hq] at hj; cases hj), rfl, by simp at hn13; omega, hdrop, hsm, hx5⟩
  obtain ⟨j, l, hq⟩ : ∃ j l, st.q y = j :: l := by
    cases hq : st.q y with
    | nil => rw [hwy] at hc2; simp at hc2; rw [hyn] at hq; exact absurd hq hc2
    | cons j l => exact ⟨j, l, rfl⟩
  have hqn : st.q (yn : Int) = j :: l := by rw [← hyn]; exact hq
  refine ⟨fun u => Ext w5 u, Ext.drew _, Let.intro fun w7 e7 => ?_⟩
  have hx7 : Ext w5 w7 := by rw [e7]; exact Ext.drew _
  have hjl := (g.q y j (by rw [hq]; simp)).1
  have hoj := ho.at hjl
  obtain ⟨p39, hp39, b1, b2, _⟩ := tt.head hy7 hqn
  obtain ⟨p41, hp41, c1, c2, _⟩ := tt.op hjl
  refine ⟨sh, fun u hu => (tt.ext hu).ch, by omega, by omega, sq yn, fun u hu => by have := (tt.ext hu).cq hy7; rw [hyn]; simpa using this, p39, hp39, b1, b2, (j : Int), fun u hu => ?_, p41, hp41, c1, c2, (opA h j).t, (opA h j).k, (opA h j).i, fun u hu => ?_, ?_⟩
  · obtain ⟨p', hp', _, _, hr'⟩ := (tt.ext hu).head hy7 hqn
    rw [same_pt hp39 hp']; simpa using hr'
  · obtain ⟨p', hp', _, _, hr'⟩ := (tt.ext hu).op hjl
    rw [same_pt hp41 hp']; exact hr'
  have hx07 := hx5.trans hx7
  refine (c80 (t.ext hx07) hoj).mono fun e w8 ⟨s43, he, ho43, hx8⟩ => ⟨s43, he, hx7.trans hx8, ?_⟩
  generalize hls : six.filter (hind st (opA h j)) = ls at ho43
  have hml : ∀ z, z ∈ ls ↔ hind st (opA h j) z = true := fun z => by
    rw [← hls, List.mem_filter]
    exact ⟨fun h => h.2, fun h => ⟨hind_six g h, h⟩⟩
  have hll : ls.length ≤ 6 := by rw [← hls]; exact filter_len
  have hstep : ∀ z, stepL h st y z ↔ z ∈ ls := fun z => by
    rw [hml]
    constructor
    · rintro ⟨j', r', hj', hz⟩; rw [hq] at hj'; cases hj'; exact hz
    · intro hz; exact ⟨j, l, hq, hz⟩
  have hx58 := hx7.trans hx8
  have hx08 := hx5.trans hx58
  have n43 := ho43.sli.len
  have hz8 := hx08.size
  have hz7 := hx07.size
  have hz78 := hx8.size
  have hz57 := hx7.size
  have hm13 : 2 * (6 - S.length) + Q.length ≤ 12 := by simp at hn13; omega
  refine Join.dir (rangeSI (fun i (s : Sl) w9 => ∃ S' Q', BI (stepL h st) x S' Q' (some y) ∧ (y = x ∨ y ∈ S') ∧ (∀ z ∈ ls.take i, z ≠ x ∧ z ∈ S') ∧ 2 * (6 - S'.length) + Q'.length ≤ 2 * (6 - S.length) + Q.length ∧ Tl 3 1 eI w.heap.size w9 s Q' ∧ FB w9 w.heap.size 7 (fun i => .bool (decide ((i : Int) ∈ S'))) 97 ∧ Ext w w9 ∧ w8.heap.size ≤ w9.heap.size ∧ Ints w9 s43 ls ∧ (∀ a, s43.a = some a → ¬ Rm s a.block))
    (by rw [n43]; show ls.length ≤ 9223372036854775807; omega) ⟨S, Q, hbi.pop, hys, by simp, Nat.le_refl _, hdrop.ext hx58, hsm.ext hx58, hx08, Nat.le_refl _, ho43.sli, ?_⟩ ?_ ?_)
  · intro a ha hR
    have h1 := (ho43.base ha).1
    have h2 := (hdrop.base hR).2.1
    omega
  · rintro i hi s w10 ⟨S', Q', hb', hx', hall, hmeas, htl', hsm', hx9, hz9, hi9, hsep⟩ K hK
    have hi : i < ls.length := by omega
    obtain ⟨p47, hp47, d1, d2, hr47⟩ := Ints.at hi9 hi
    refine ⟨p47, hp47, d1, d2, ls[i], hr47, ?_⟩
    have hst := (hstep ls[i]).2 (List.getElem_mem hi)
    refine cond_intro (fun hc => ?_) (fun hc => ?_)
    · have hc : ls[i] = x := by simpa using hc
      rw [hc] at hst
      exact ⟨true, rfl, by simp; exact hb'.found hx' hst, hx9⟩
    have hne : ls[i] ≠ x := by simpa using hc
    have h6 : ls[i] ∈ six := by
      obtain ⟨j', r', _, hy⟩ := hst
      exact hind_six g hy
    obtain ⟨m, hm, hm1, hm7⟩ := six_nat h6
    have hidx : 0 + Int.toNat ls[i] * 1 = m := by rw [hm]; simp
    have hcm : World.cell? w10 ⟨w.heap.size, 0 + Int.toNat ls[i] * 1, none⟩ = some (.bool (decide (ls[i] ∈ S'))) := by
      rw [hidx, hm]; exact hsm'.cell hm7 rfl
    refine ⟨by omega, by omega, decide (ls[i] ∈ S'), hcm, Join.dir (cond_intro (fun hc => ?_) (fun hc => ?_))⟩
    · have hn : ls[i] ∉ S' := by simpa using hc
      have hb2 := hb'.add hx' hst hne hn h6
      have hl3 := hb2.len
      have hso := hsm'.storeOk (o := m) (k := 1) (vs := [.bool true]) rfl (by simp [Value.oneCell']) (by omega)
      have hfbp := hsm'.put (o := m) (vs := [.bool true]) (by simp; omega)
      have hfp : Fr (fun y => y = w.heap.size) w10 (VC.put w10 w.heap.size m [.bool true]) := Fr.put ..
      refine ⟨by omega, by omega, by rw [hidx]; exact hso, Let.intro fun w13 e13 => ?_⟩
      rw [hidx] at e13
      rw [← e13] at hfbp hfp
      have hRm : ∀ y, Rm s y → y ≠ w.heap.size := fun y hy e => by
        obtain ⟨_, _, cur, hcur⟩ := htl'.base hy
        subst e
        exact Blk.ne_ty hcur hsm' (by decide) rfl
      have htl13 := htl'.fr hfp fun y hy e => hRm y hy e
      have z13 := hfp.size
      obtain ⟨s1, w14, e14, hx14, s2, w15, e15, htl15, hf15, hwh⟩ := appendTl3 htl13 ls[i] (by omega) (by omega)
      have z14 := hx14.size
      have z15 := hf15.size
      have hx13 : Ext w w13 := hx9.newer hfp fun y (hy : y = w.heap.size) => by omega
      have h43 : ∀ a, s43.a = some a → a.block ≠ w.heap.size := fun a ha e => by
        obtain ⟨cur, hc⟩ := ho43.blk ha
        rw [e] at hc
        exact Blk.ne_ty hc (hsm.ext hx58) (by decide) rfl
      refine ⟨s1, w14, e14, s2, w15, e15, hK _ _ ⟨S' ++ [ls[i]], Q' ++ [ls[i]], hb2, ?_, ?_, ?_, htl15, ?_, ?_, by omega, ?_, ?_⟩⟩
      · rcases hx' with h1 | h1
        · exact .inl h1
        · exact .inr (by simp [h1])
      · intro z hz
        rw [List.take_succ_eq_append_getElem hi] at hz
        rcases List.mem_append.1 hz with hz | hz
        · exact ⟨(hall z hz).1, by simp [(hall z hz).2]⟩
        · simp at hz; subst hz; exact ⟨hne, by simp⟩
      · simp at hl3 ⊢; omega
      · have hfb15 : FB w15 w.heap.size 7 (updF (fun i => .bool (decide ((i : Int) ∈ S'))) m [.bool true]) 97 := (hfbp.ext hx14).fr hf15 fun hy => hRm _ hy rfl
        have hfe : (List.range 7).map (updF (fun i => .bool (decide ((i : Int) ∈ S'))) m [.bool true]) = (List.range 7).map (fun k : Nat => Value.bool (decide ((k : Int) ∈ S' ++ [ls[i]]))) := by
          apply List.map_congr_left
          intro k hk
          by_cases e : k = m
          · subst e
            rw [updF_in (Nat.le_refl _) (v := .bool true) (by simp), hm]; simp
          · rw [updF_out (by simp; omega), hm]
            have : ¬ (k : Int) = (m : Int) := by omega
            simp [this]
        unfold FB at hfb15 ⊢
        rw [hfe] at hfb15
        exact hfb15
      · refine (hx13.trans hx14).newer hf15 fun y hy => ?_
        have := (htl'.base hy).1
        omega
      · refine ((hi9.fr hfp h43).ext hx14).fr hf15 fun a ha hR => hsep a ha hR
      · intro a ha hR
        rcases hwh with hwh | hwh
        · exact hsep a ha (hwh _ hR)
        · have h1 := hwh _ hR
          have h2 := (ho43.base ha).2
          omega
    · have hin : ls[i] ∈ S' := by simpa using hc
      refine hK _ _ ⟨S', Q', hb', hx', fun z hz => ?_, hmeas, htl', hsm', hx9, hz9, hi9, hsep⟩
      rw [List.take_succ_eq_append_getElem hi] at hz
      rcases List.mem_append.1 hz with hz | hz
      · exact hall z hz
      · simp at hz; subst hz; exact ⟨hne, hin⟩
  · rintro s w10 ⟨S', Q', hb', hx', hall, hmeas, htl', hsm', hx9, _, _, _⟩
    rw [n43, List.take_length] at hall
    exact ⟨2 * (6 - S'.length) + Q'.length, by simp; omega, S', Q', hb'.close fun z hz => hall z ((hstep z).1 hz), rfl, by omega, htl', hsm', hx9⟩
end
end Go.Proofs.Ytnbkihkdfhjlmaa
/-
  Contracts of the reference: conflicts (F59), agrees (F58), Equivalent (F29).
-/
namespace Go.Proofs.Ytnbkihkdfhjlmaa
open Go Go.VC
set_option maxHeartbeats 1000000
set_option maxRecDepth 100000

/-- The conflicts found so far: the later operation is one of the first i, or the i-th, the earlier one of the first j. -/
def confBy (p : List Ev) (i j : Nat) (a b : Int) : Prop := ∃ i' j', ∃ (hi : i' < p.length) (hj : j' < p.length), i' < j' ∧ (j' < i ∨ j' = i ∧ i' < j) ∧ cfl p[i'] p[j'] = true ∧ p[i'].t = a ∧ p[j'].t = b
def EdgeF (f : Nat → Value) (Q : Int → Int → Prop) : Prop := ∀ x y : Nat, x < 7 → y < 7 → ∃ c : Bool, f (x * 7 + y) = .bool c ∧ (c = true ↔ Q x y)
theorem EdgeF.congr {f : Nat → Value} {Q Q' : Int → Int → Prop} (e : EdgeF f Q) (h : ∀ x y : Nat, Q' x y ↔ Q x y) : EdgeF f Q' := fun x y hx hy => by
  obtain ⟨c, h1, h2⟩ := e x y hx hy; exact ⟨c, h1, by rw [h2, h]⟩
theorem u109 : (zc Try.prog 109).toList = (List.range 49).map fun _ => Value.bool false := by kernel_rfl

theorem c59 {w : World} {s : Sl} {h : List Ev} (hs : Hs w s h) (hok : OkH h) (hl : h.length ≤ 1000) :
    Calls Try.prog 59 [.slice s.a s.n s.c].toArray w fun e w' => ∃ cs : List Value, cs.length = 49 ∧ e = .returned (.agg cs.toArray) ∧ (∃ f, cs = (List.range 49).map f ∧ EdgeF f fun a b => conf (part h) a b = true) ∧ Ext w w' := by
  refine (call59 s (R := fun v w' => ∃ cs : List Value, cs.length = 49 ∧ v = (.agg cs.toArray) ∧ (∃ f, cs = (List.range 49).map f ∧ EdgeF f fun a b => conf (part h) a b = true) ∧ Ext w w') ?_).mono fun e w' ⟨v, he, cs, h1, hv, hx⟩ => ⟨cs, h1, by rw [he, hv], hx⟩
  refine Let.intro fun w1 e1 => Let.intro fun w2 e2 => ?_
  have hx1 : Ext w w1 := by rw [e1]; exact Ext.alloc ..
  have hx2 : Ext w1 w2 := by rw [e2]; exact Ext.alloc ..
  have hb1 : FB w1 w.heap.size 49 (fun _ => .bool false) 109 := by
    unfold FB; rw [← u109, e1]; simpa using Blk.alloc w (zc Try.prog 109).toList 109
  have hb2 : FB w2 w1.heap.size 49 (fun _ => .bool false) 109 := by
    unfold FB; rw [← u109, e2]; simpa using Blk.alloc w1 (zc Try.prog 109).toList 109
  have z1 := hx1.size
  have z2 := hx2.size
  have lt1 := hb1.lt
  have lt2 := hb2.lt
  have hx02 := hx1.trans hx2
  refine (c70 (hs.ext hx02) hok (by omega)).mono fun e w3 ⟨s9, he, ho9, hx3⟩ => ⟨s9, he, ?_⟩
  have z3 := hx3.size
  have hx03 := hx02.trans hx3
  have hp9 := ho9.sli
  have hn9 := hp9.len
  have hpl : (part h).length ≤ 1000 := Nat.le_trans (List.length_filter_le ..) hl
  have hpok : OkH (part h) := fun o ho => hok o (List.mem_filter.1 ho).1
  generalize hpe : part h = p at hp9 hn9 hpl hpok ho9
  refine Join.dir (rangeI (fun i w' => (∃ f, FB w' w1.heap.size 49 f 109 ∧ EdgeF f (confBy p i 0)) ∧ FB w' w.heap.size 49 (fun _ => .bool false) 109 ∧ Ext w w' ∧ Hs w' s9 p ∧ w3.heap.size ≤ w'.heap.size) (by rw [hn9]; show p.length ≤ 9223372036854775807; omega)
    ⟨⟨_, hb2.ext hx3, fun x y _ _ => ⟨false, rfl, by simp; rintro ⟨i', j', _, _, _, h1 | ⟨_, h1⟩, _⟩ <;> omega⟩⟩, (hb1.ext hx2).ext hx3, hx03, hp9, Nat.le_refl _⟩ ?_ ?_)
  · rintro i hi w6 ⟨⟨f, hf, hE⟩, hr6, hx6, hp6, hz6⟩ K hK
    have hi : i < p.length := by omega
    refine loadEv hp6 hi zc37 fun w9 hb9 hx9 => ?_
    rw [← opA_at hi] at hb9
    have hlb := hb9.lt
    have z9 := hx9.size
    refine ⟨by omega, by have := hp6.cap; omega, Join.dir (rangeI (n := i) (fun j w' => (∃ f, FB w' w1.heap.size 49 f 109 ∧ EdgeF f (confBy p i j)) ∧ FB w' w.heap.size 49 (fun _ => .bool false) 109 ∧ Ext w w' ∧ Hs w' s9 p ∧ w9.heap.size ≤ w'.heap.size ∧ Blk w' w6.heap.size (eO (opA p i)) 37) (by show i ≤ 9223372036854775807; omega)
      ⟨⟨f, hf.ext hx9, hE⟩, hr6.ext hx9, hx6.trans hx9, hp6.ext hx9, Nat.le_refl _, hb9⟩ ?_ ?_)⟩
    · rintro j hj w11 ⟨⟨f1, hf1, hE1⟩, hr11, hx11, hp11, hz11, hb11⟩ K2 hK2
      have hjl : j < p.length := by omega
      refine loadEvN hp11 hjl (by omega) zc37 fun w14 hb14 hx14 => ?_
      rw [← opA_at hjl] at hb14
      have hb11' := hb11.ext hx14
      have hoi := hpok.at hi
      have hoj := hpok.at hjl
      have hxx := hx11.trans hx14
      have z14 := hx14.size
      have hcf : cfl p[j] p[i] = cfl (opA p j) (opA p i) := by rw [opA_at hi, opA_at hjl]
      have hstep : ∀ a b : Int, confBy p i (j + 1) a b ↔ confBy p i j a b ∨ (cfl (opA p j) (opA p i) = true ∧ (opA p j).t = a ∧ (opA p i).t = b) := fun a b => by
        constructor
        · rintro ⟨i', j', g1, g2, g3, g4, g5, g6, g7⟩
          by_cases e : j' = i ∧ i' = j
          · obtain ⟨rfl, rfl⟩ := e
            exact .inr ⟨by rw [← hcf]; exact g5, by rw [opA_at hjl]; exact g6, by rw [opA_at hi]; exact g7⟩
          · exact .inl ⟨i', j', g1, g2, g3, by omega, g5, g6, g7⟩
        · rintro (⟨i', j', g1, g2, g3, g4, g5, g6, g7⟩ | ⟨g5, g6, g7⟩)
          · exact ⟨i', j', g1, g2, g3, by omega, g5, g6, g7⟩
          · exact ⟨j, i, hjl, hi, hj, .inr ⟨rfl, by omega⟩, by rw [hcf]; exact g5, by rw [← opA_at hjl]; exact g6, by rw [← opA_at hi]; exact g7⟩
      refine ⟨fun (c : Bool) w15 => c = cfl (opA p j) (opA p i) ∧ w15 = w14, ?_, ?_⟩
      · rintro c w15 ⟨rfl, rfl⟩
        refine Join.dir (cond_intro (fun hc => ?_) (fun hc => ?_))
        · refine Let.intro fun w17 e17 => ?_
          have hx17 : Ext w15 w17 := by rw [e17]; exact Ext.drew _
          obtain ⟨m, hm, hm1, hm7⟩ := txn_nat hoj
          obtain ⟨n, hn, hn1, hn7⟩ := txn_nat hoi
          have hidx : 0 + Int.toNat (opA p j).t * 7 + Int.toNat (opA p i).t * 1 = m * 7 + n := by rw [hm, hn]; simp
          have hf17 := (hf1.ext hx14).ext hx17
          have hfp := hf17.put (o := m * 7 + n) (vs := [.bool true]) (by simp; omega)
          have hfr : Fr (fun y => y = w1.heap.size) w17 (VC.put w17 w1.heap.size (m * 7 + n) [.bool true]) := Fr.put ..
          refine ⟨(opA p j).t, (hb14.ext hx17).cell 0, (opA p i).t, (hb11'.ext hx17).cell 0, by omega, by omega, by omega, by omega, ?_, Let.intro fun w18 e18 => ?_⟩
          · rw [hidx]; exact hf17.storeOk rfl (by simp [Value.oneCell']) (by omega)
          rw [hidx] at e18
          rw [← e18] at hfp hfr
          have z17 := hx17.size
          have z18 := hfr.size
          refine hK2 _ ⟨⟨_, hfp, fun x y hx hy => ?_⟩, ((hr11.ext hx14).ext hx17).fr hfr fun (e : w.heap.size = w1.heap.size) => by omega, (hxx.trans hx17).newer hfr fun y (hy : y = w1.heap.size) => by omega, ((hp11.ext hx14).ext hx17).fr hfr fun a ha (e : a.block = w1.heap.size) => ?_, by omega, (hb11'.ext hx17).fr hfr fun (e : w6.heap.size = w1.heap.size) => by omega⟩
          · by_cases e : x = m ∧ y = n
            · obtain ⟨rfl, rfl⟩ := e
              exact ⟨true, updF_in (Nat.le_refl _) (by simp), by simp only [true_iff]; exact (hstep _ _).2 (.inr ⟨hc, hm, hn⟩)⟩
            · obtain ⟨c, h1, h2⟩ := hE1 x y hx hy
              refine ⟨c, by rw [updF_out (by simp; omega)]; exact h1, by rw [h2, hstep]; constructor; exact .inl; rintro (h | ⟨_, h3, h4⟩); exact h; exfalso; rw [hm] at h3; rw [hn] at h4; omega⟩
          · have := (ho9.base ha).1
            omega
        · refine hK2 _ ⟨⟨f1, hf1.ext hx14, hE1.congr fun x y => ?_⟩, hr11.ext hx14, hxx, hp11.ext hx14, by omega, hb11'⟩
          rw [hstep]
          exact ⟨fun h => (by rcases h with h | ⟨h, _⟩; exact h; rw [hc] at h; cases h), .inl⟩
      · unfold okOp at hoi hoj
        have hcfl : cfl (opA p j) (opA p i) = (decide ((opA p i).k < 2) && (decide ((opA p j).k < 2) && (decide ((opA p i).k + (opA p j).k > 0) && (decide ((opA p i).i = (opA p j).i) && decide ((opA p i).t ≠ (opA p j).t))))) := by
          unfold cfl
          rw [Bool.eq_iff_iff]
          simp only [Bool.and_eq_true, bne_iff_ne, ne_eq, beq_iff_eq, decide_eq_true_eq]
          constructor
          · rintro ⟨g1, g2, g3⟩
            split at g3 <;> exact ⟨by omega, by omega, by omega, g2.symm, fun e => g1 e.symm⟩
          · rintro ⟨g1, g2, g3, g4, g5⟩
            exact ⟨fun e => g5 e.symm, g4.symm, by split <;> omega⟩
        rw [hcfl]
        refine ⟨_, hb11'.cell 1, cond_intro (fun g1 => ?_) (fun g1 => ⟨?_, rfl⟩)⟩
        rotate_left
        · simp at g1; simp; intro h; omega
        refine ⟨_, hb14.cell 1, cond_intro (fun g2 => ?_) (fun g2 => ⟨?_, rfl⟩)⟩
        rotate_left
        · simp at g2; simp; intro _ h; omega
        refine ⟨_, hb11'.cell 1, _, hb14.cell 1, ?_⟩
        simp only [decide_eq_true_eq] at g1 g2
        rw [wrap64 (by omega) (by omega)]
        refine cond_intro (fun g3 => ?_) (fun g3 => ⟨?_, rfl⟩)
        rotate_left
        · simp at g3; simp; intros; omega
        refine ⟨_, hb11'.cell 2, _, hb14.cell 2, cond_intro (fun g4 => ?_) (fun g4 => ⟨?_, rfl⟩)⟩
        rotate_left
        · simp at g4; simp [g4]
        refine ⟨_, hb11'.cell 0, _, hb14.cell 0, ?_, rfl⟩
        simp only [decide_eq_true_eq] at g3
        have g4 : (opA p i).i = (opA p j).i := by simpa using g4
        simp only [g1, g2, g3, g4, decide_true, Bool.true_and]
        by_cases e : (opA p i).t = (opA p j).t <;> simp [e]
    · rintro w11 ⟨⟨f1, hf1, hE1⟩, hr11, hx11, hp11, hz11, _⟩
      refine hK _ ⟨⟨f1, hf1, hE1.congr fun x y => ?_⟩, hr11, hx11, hp11, by omega⟩
      constructor
      · rintro ⟨i', j', g1, g2, g3, g4, g5⟩; exact ⟨i', j', g1, g2, g3, by omega, g5⟩
      · rintro ⟨i', j', g1, g2, g3, g4, g5⟩; exact ⟨i', j', g1, g2, g3, by omega, g5⟩
  · rintro w4 ⟨⟨f, hf, hE⟩, hr4, hx4, _, hz4⟩
    have hst := hr4.storeOk (o := 0) (k := 49) (vs := (List.range 49).map f) (by simp) (fun v hv => ?_) (by omega)
    rotate_left
    · obtain ⟨k, hk, rfl⟩ := List.mem_map.1 hv
      have hk : k < 49 := by simpa using hk
      obtain ⟨c, h1, _⟩ := hE (k / 7) (k % 7) (by omega) (by omega)
      rw [show k / 7 * 7 + k % 7 = k from by omega] at h1
      rw [h1]; rfl
    have hfr : Fr (fun y => y = w.heap.size) w4 (VC.put w4 w.heap.size 0 ((List.range 49).map f)) := Fr.put ..
    refine ⟨(List.range 49).map f, by simp, Blk.rd hf, hst, Let.intro fun w5 e5 => ?_⟩
    rw [← e5] at hfr
    have hfp := Blk.put (vs := (List.range 49).map f) (o := 0) hr4
    rw [show setR ((List.range 49).map fun _ => Value.bool false) 0 ((List.range 49).map f) = (List.range 49).map f from by simpa using setR_all (vs := (List.range 49).map f) (l := (List.range 49).map fun _ => Value.bool false) (pre := []) (by simp), ← e5] at hfp
    refine ⟨(List.range 49).map f, by simp, hfp.rd, (List.range 49).map f, by simp, rfl, ⟨f, rfl, hE.congr fun x y => ?_⟩, hx4.newer hfr fun y (hy : y = w.heap.size) => by omega⟩
    rw [conf_iff]
    constructor
    · rintro ⟨i', j', g1, g2, g3, g5⟩; exact ⟨i', j', g1, g2, g3, .inl (by omega), g5⟩
    · rintro ⟨i', j', g1, g2, g3, _, g5⟩; exact ⟨i', j', g1, g2, g3, g5⟩

theorem c58 {w : World} {s : Sl} {l : List Int} (hs : Ints w s l) (hl : l.length ≤ 1000) (h6 : ∀ x ∈ l, x ∈ six) {f : Nat → Value} {Q : Int → Int → Prop} (hE : EdgeF f Q) :
    Calls Try.prog 58 [.slice s.a s.n s.c, .agg ((List.range 49).map f).toArray].toArray w fun e w' => ∃ c : Bool, e = .returned (.bool c) ∧ (c = true ↔ l.Pairwise fun a b => ¬ Q b a) ∧ Ext w w' := by
  refine (call58 s ((List.range 49).map f) (R := fun v w' => ∃ c : Bool, v = .bool c ∧ (c = true ↔ l.Pairwise fun a b => ¬ Q b a) ∧ Ext w w') ?_).mono fun e w' ⟨v, he, c, hv, hx⟩ => ⟨c, by rw [he, hv], hx⟩
  refine Let.intro fun w1 e1 => ?_
  have hx1 : Ext w w1 := by rw [e1]; exact Ext.alloc ..
  have hb1 : FB w1 w.heap.size 49 f 109 := by unfold FB; rw [e1]; exact Blk.alloc ..
  have hn := hs.len
  have hbig : l.length ≤ big := by show l.length ≤ 9223372036854775807; omega
  refine Join.dir (rangeI (fun i w' => (l.take i).Pairwise (fun a b => ¬ Q b a) ∧ Ext w1 w') (by rw [hn]; exact hbig) ⟨by simp, Fr.refl _ _⟩ ?_ ?_)
  · rintro i hi w3 ⟨hp, hx3⟩ K hK
    have hi : i < l.length := by omega
    have hx03 := hx1.trans hx3
    obtain ⟨p, hpp, a1, a2, hr⟩ := Ints.at (hs.ext hx03) hi
    refine ⟨p, hpp, a1, a2, _, hr, by omega, by have := hs.cap; omega, Join.dir (rangeI (n := i) (fun j w' => (∀ a ∈ (l.take i).take j, ¬ Q l[i] a) ∧ Ext w3 w') (by omega) ⟨by simp, Fr.refl _ _⟩ ?_ ?_)⟩
    · rintro j hj w6 ⟨hq, hx6⟩ K2 hK2
      have hjl : j < l.length := by omega
      have hx06 := hx03.trans hx6
      obtain ⟨q, hq', b1, _, hr'⟩ := Ints.at (hs.ext hx06) hjl
      obtain ⟨m, hm, hm1, hm7⟩ := six_nat (h6 _ (List.getElem_mem hi))
      obtain ⟨n, hnn, hn1, hn7⟩ := six_nat (h6 _ (List.getElem_mem hjl))
      obtain ⟨c, h1, h2⟩ := hE m n hm7 hn7
      have hidx : 0 + Int.toNat l[i] * 7 + Int.toNat l[j] * 1 = m * 7 + n := by rw [hm, hnn]; simp
      have hjt : j < (l.take i).length := by simp; omega
      refine ⟨q, hq', b1, by omega, _, hr', by omega, by omega, by omega, by omega, c, ?_, cond_intro (fun hc => ?_) (fun hc => ?_)⟩
      · rw [hidx]; exact ((hb1.ext hx3).ext hx6).cell (by omega) h1
      · refine ⟨false, rfl, ?_, hx06⟩
        simp only [Bool.false_eq_true, false_iff]
        intro hpw
        have := List.pairwise_iff_getElem.1 hpw j i hjl hi hj
        rw [hm, hnn] at this
        exact this (h2.1 hc)
      · refine hK2 _ ⟨fun a ha => ?_, hx6⟩
        rw [List.take_succ_eq_append_getElem hjt] at ha
        rcases List.mem_append.1 ha with ha | ha
        · exact hq a ha
        · have : a = l[j] := by simpa using ha
          rw [this, hm, hnn]
          intro h3; rw [h2.2 h3] at hc; cases hc
    · rintro w6 ⟨hq, hx6⟩
      refine hK _ ⟨?_, hx3.trans hx6⟩
      rw [List.take_succ_eq_append_getElem hi, List.pairwise_append]
      rw [List.take_of_length_le (by simp; omega)] at hq
      exact ⟨hp, by simp, fun a ha b hb => by simp at hb; subst hb; exact hq a ha⟩
  · rintro w3 ⟨hp, hx3⟩
    rw [hn, List.take_length] at hp
    exact ⟨true, rfl, by simp; exact hp, hx1.trans hx3⟩

theorem c29 {w : World} {s s' : Sl} {h : List Ev} {l : List Int} (hs : Hs w s h) (hs' : Ints w s' l) (hok : OkH h) (hl : h.length ≤ 1000) (hp : l.Perm (com h)) :
    Calls Try.prog 29 [.slice s.a s.n s.c, .slice s'.a s'.n s'.c].toArray w fun e w' => ∃ c : Bool, e = .returned (.bool c) ∧ (c = true ↔ l.Pairwise fun a b => conf (part h) b a = false) ∧ Ext w w' := by
  refine (call29 s s' (R := fun v w' => ∃ c : Bool, v = .bool c ∧ (c = true ↔ l.Pairwise fun a b => conf (part h) b a = false) ∧ Ext w w') ?_).mono fun e w' ⟨v, he, c, hv, hx⟩ => ⟨c, by rw [he, hv], hx⟩
  have hcl := com_len h
  have hll : l.length ≤ 6 := by rw [hp.length_eq]; exact hcl
  have hn' := hs'.len
  refine (c41 hs hok (by omega)).mono fun e w1 ⟨s11, he, ho11, hx1⟩ => ⟨s11, he, ?_⟩
  refine (c40 (com h).length (com h) w1 s11 hcl rfl ho11.sli).mono fun e w2 ⟨s12, he, hL, hx2⟩ => ⟨s12, he, ?_⟩
  have hn12 := hL.len
  have hx02 := hx1.trans hx2
  have hpl := permsN_le (com h).length (com h) hcl rfl
  have hp6 : 6 ^ (com h).length ≤ 6 ^ 6 := Nat.pow_le_pow_right (by omega) hcl
  refine Join.dir (rangeI (fun i w' => l ∉ (permsN (com h).length (com h)).take i ∧ Ext w2 w') (by rw [hn12]; exact Nat.le_trans (Nat.le_trans hpl hp6) (by decide)) ⟨by simp, Fr.refl _ _⟩ ?_ ?_)
  · rintro i hi w4 ⟨hno, hx4⟩ K hK
    have hi : i < (permsN (com h).length (com h)).length := by omega
    obtain ⟨p16, x, hp16, a1, a2, hr, hxl⟩ := (hL.ext hx4).at hi
    generalize hpe : (permsN (com h).length (com h))[i] = p at hxl
    have hpp : p.Perm (com h) := by rw [← hpe]; exact permsN_perm _ _ rfl _ (List.getElem_mem hi)
    have hpl2 : p.length = l.length := by rw [hpp.length_eq, hp.length_eq]
    have hx04 := hx02.trans hx4
    have nx := hxl.len
    refine ⟨p16, hp16, a1, a2, x, hr, ?_⟩
    refine ⟨fun (c : Bool) w6 => c = decide (p = l) ∧ Ext w4 w6, ?_, ?_⟩
    · rintro c w6 ⟨rfl, hx6⟩
      have hx06 := hx04.trans hx6
      refine cond_intro (fun hc => ?_) (fun hc => ?_)
      · have hc : p = l := by simpa using hc
        refine (c59 (hs.ext hx06) hok hl).mono fun e w7 ⟨cs, hcs, he, ⟨f, hcf, hE⟩, hx7⟩ => ⟨cs, hcs, he, ?_⟩
        subst hcf
        refine (c58 ((hs'.ext hx06).ext hx7) (by omega) (fun y hy => ?_) hE).mono fun e w8 ⟨c, he, hiff, hx8⟩ => ⟨c, he, c, rfl, ?_, (hx06.trans hx7).trans hx8⟩
        · have := mem_com.1 (hp.mem_iff.1 hy); exact mem_six.2 ⟨this.1, this.2.1⟩
        · rw [hiff]
          constructor
          · intro h; exact h.imp fun h => by simpa using h
          · intro h; exact h.imp fun h => by simpa using h
      · have hc : ¬ p = l := by simpa using hc
        refine hK _ ⟨?_, hx4.trans hx6⟩
        rw [List.take_succ_eq_append_getElem hi, List.mem_append, not_or]
        exact ⟨hno, by rw [hpe]; simp; exact fun e => hc e.symm⟩
    · have hinit : (((x.n : Nat) : Int) == ((s'.n : Nat) : Int)) = true := by rw [nx, hn', hpl2]; simp
      rw [hinit]
      refine rangeKI (k := .bool) (fun j (c : Bool) w' => c = decide (p.take j = l.take j) ∧ Ext w4 w') (by rw [nx]; show p.length ≤ 9223372036854775807; omega) ⟨by simp, Fr.refl _ _⟩ ?_ ?_
      · rintro j hj c w9 ⟨rfl, hx9⟩ K2 hK2
        have hj : j < p.length := by omega
        have hjl : j < l.length := by omega
        obtain ⟨p28, hp28, b1, b2, hr28⟩ := Ints.at (hxl.ext hx9) hj
        obtain ⟨p34, hp34, d1, d2, hr34⟩ := Ints.at ((hs'.ext hx04).ext hx9) hjl
        have hst : (p.take (j + 1) = l.take (j + 1)) ↔ (p.take j = l.take j ∧ l[j] = p[j]) := by
          rw [List.take_succ_eq_append_getElem hj, List.take_succ_eq_append_getElem hjl]
          constructor
          · intro e
            obtain ⟨e1, e2⟩ := List.append_inj e (by simp; omega)
            exact ⟨e1, by simpa using e2.symm⟩
          · rintro ⟨e1, e2⟩; rw [e1, e2]
        refine ⟨p28, hp28, b1, b2, _, hr28, Join.dir (cond_intro (fun hc => ?_) (fun hc => ?_))⟩
        · have hc : p.take j = l.take j := by simpa using hc
          refine ⟨p34, hp34, d1, d2, _, hr34, hK2 _ _ ⟨?_, hx9⟩⟩
          rw [Bool.eq_iff_iff]
          simp only [beq_iff_eq, decide_eq_true_eq, hst, hc, true_and]
        · have hc : ¬ p.take j = l.take j := by simpa using hc
          refine hK2 _ _ ⟨?_, hx9⟩
          rw [eq_comm, decide_eq_false_iff_not, hst]
          exact fun h => hc h.1
      · rintro c w9 ⟨rfl, hx9⟩
        refine ⟨?_, hx9⟩
        rw [nx, List.take_length, hpl2, List.take_length]
  · rintro w4 ⟨hno, hx4⟩
    rw [hn12, List.take_length] at hno
    exact absurd (permsN_all _ _ _ rfl hp) hno
end Go.Proofs.Ytnbkihkdfhjlmaa
