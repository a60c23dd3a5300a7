/-
  The contract of the law function HistoryExchanged.
-/
import Derived.Test.YtnbkihkdfhjlmaaDc
namespace Go.Proofs.Ytnbkihkdfhjlmaa
open Go Go.VC
set_option maxHeartbeats 800000

/-- The place that is taken: it has a neighbour. -/
theorem place (x : Int) {n : Nat} (h2 : 2 ≤ n) (h40 : n ≤ 40) :
    IntKind.wrap .u64 (IntKind.wrap .i64 ((n : Int) - 1)) ≠ 0 ∧ ∃ i : Nat, i + 1 < n ∧ IntKind.wrap .i64 (Int.tmod (IntKind.wrap .u64 x) (IntKind.wrap .u64 (IntKind.wrap .i64 ((n : Int) - 1)))) = i := by
  have e1 : IntKind.wrap .i64 ((n : Int) - 1) = (n : Int) - 1 := wrap64 (by omega) (by omega)
  have e2 : IntKind.wrap .u64 ((n : Int) - 1) = (n : Int) - 1 := by rw [IntKind.wrap_u64]; omega
  rw [e1, e2]
  refine ⟨by omega, ?_⟩
  have h0 : 0 ≤ IntKind.wrap .u64 x := by rw [IntKind.wrap_u64]; omega
  generalize IntKind.wrap .u64 x = u at h0
  have hpos : (0 : Int) < (n : Int) - 1 := by omega
  rw [Int.tmod_eq_emod_of_nonneg h0]
  have h3 := Int.emod_nonneg u (show (n : Int) - 1 ≠ 0 by omega)
  have h4 := Int.emod_lt_of_pos u hpos
  rw [wrap64 (by omega) (by omega)]
  exact ⟨(u % ((n : Int) - 1)).toNat, by omega, by omega⟩

theorem srt_len {E : Int → Int → Bool} : ∀ (n : Nat) (l r : List Int), srt E n l = some r → r.length = n
  | 0, _, r, h => by simp [srt] at h; subst h; rfl
  | n + 1, l, r, h => by
    rw [srt] at h
    split at h
    · cases h
    · obtain ⟨q, hq, rfl⟩ := Option.map_eq_some_iff.1 h
      simp [srt_len n _ q hq]
theorem grow_len {E : Int → Int → Bool} {l : List Int} : ∀ (n : Nat) (c r : List Int), grow E l n c = some r → r.length = c.length + n
  | 0, c, r, h => by
    rw [grow] at h
    split at h
    · cases h; rfl
    · cases h
  | n + 1, c, r, h => by
    rw [grow] at h
    obtain ⟨t, _, ht⟩ := List.exists_of_findSome?_eq_some h
    split at ht
    · have := grow_len n _ r ht
      simp at this; omega
    · cases ht
theorem progO_len (h : List Ev) : ((progO h).getD []).length ≤ big := by
  cases hp : progO h with
  | none => simp
  | some r =>
    have h1 := srt_len _ _ r hp
    have h2 := com_len h
    show r.length ≤ 9223372036854775807
    omega
theorem progC_len (h : List Ev) : ((progC h).getD []).length ≤ big := by
  cases hp : progC h with
  | none => simp
  | some r =>
    obtain ⟨k, hk, h1⟩ := List.exists_of_findSome?_eq_some hp
    obtain ⟨t, _, h2⟩ := List.exists_of_findSome?_eq_some h1
    have h3 := grow_len _ _ _ h2
    have h4 := com_len h
    simp at hk h3
    show r.length ≤ 9223372036854775807
    omega
theorem progV_len (h : List Ev) : ((progV h).getD []).length ≤ big := by
  rw [progV_eq]
  cases hp : refV h with
  | none => simp
  | some r =>
    have h1 := permsN_perm _ _ rfl r (List.mem_of_find?_eq_some hp)
    have h2 := com_len h
    have h3 := h1.length_eq
    show r.length ≤ 9223372036854775807
    omega

theorem two_writes {w : World} {c d : Nat} {z z' : List Value} (hc : Blk w c z 37) (hd : Blk w d z' 37) (hz : z.length = 3) (hz' : z'.length = 3) (hne : c ≠ d) (a b : Ev) :
    StoreOk w c 0 (eO a) 3 ∧ Fr (fun i => i = c) w (put w c 0 (eO a)) ∧ StoreOk (put w c 0 (eO a)) d 0 (eO b) 3 ∧ Fr (fun i => i = d) (put w c 0 (eO a)) (put (put w c 0 (eO a)) d 0 (eO b)) ∧
      Blk (put (put w c 0 (eO a)) d 0 (eO b)) c (eO a) 37 ∧ Blk (put (put w c 0 (eO a)) d 0 (eO b)) d (eO b) 37 := by
  have hf1 : Fr (fun i => i = c) w (put w c 0 (eO a)) := Fr.put ..
  have hd1 := hd.fr hf1 (Ne.symm hne)
  have hc1 := hc.put (o := 0) (vs := eO a)
  rw [show setR z 0 (eO a) = eO a from by simpa using setR_all (vs := eO a) (l := z) (pre := []) (by simp [hz, eO_len])] at hc1
  have hf2 : Fr (fun i => i = d) (put w c 0 (eO a)) (put (put w c 0 (eO a)) d 0 (eO b)) := Fr.put ..
  have hd2 := hd1.put (o := 0) (vs := eO b)
  rw [show setR z' 0 (eO b) = eO b from by simpa using setR_all (vs := eO b) (l := z') (pre := []) (by simp [hz', eO_len])] at hd2
  exact ⟨hc.storeOk rfl (eO_one a) (by simp [hz]), hf1, hd1.storeOk rfl (eO_one b) (by simp [hz']), hf2, hc1.fr hf2 hne, hd2⟩

theorem c4 {w : World} {s : Sl} {h : List Ev} (x1 : Int) (hs : Hs w s h) (hl : h.length ≤ big) :
    Calls Try.prog 4 [.slice s.a s.n s.c, .int .i64 x1].toArray w fun e w' => e = .returned (.bool true) ∧ Ext w w' := by
  refine (call4 s x1 (R := fun v w' => v = .bool true ∧ Ext w w') ?_).mono fun e w' ⟨v, he, hv, hx⟩ => ⟨by rw [he, hv], hx⟩
  have hn := hs.len
  have ht : (h.take 43).length ≤ 100 := by simp; omega
  refine (of_ok hs hl).mono fun e w1 ⟨s22, he, ho22, hx1⟩ => ⟨s22, he, ?_⟩
  refine (c17 ho22.sli ht).mono fun e w2 ⟨s23, x23, he, hc23, hx2⟩ => ⟨s23, x23, he, ?_⟩
  have hx02 := hx1.trans hx2
  refine (of_ok (hs.ext hx02) hl).mono fun e w3 ⟨s28, he, ho28, hx3⟩ => ⟨s28, he, ?_⟩
  refine (c18 ho28.sli ht).mono fun e w4 ⟨s29, x29, he, hc29, hx4⟩ => ⟨s29, x29, he, ?_⟩
  have hx04 := (hx02.trans hx3).trans hx4
  refine (of_ok (hs.ext hx04) hl).mono fun e w5 ⟨s34, he, ho34, hx5⟩ => ⟨s34, he, ?_⟩
  refine (c11 ho34.sli ht).mono fun e w6 ⟨s35, x35, he, hc35, hx6⟩ => ⟨s35, x35, he, ?_⟩
  have hx06 := (hx04.trans hx5).trans hx6
  rw [valid_take] at hc23 hc29 hc35
  have hawake : ∀ w', Ext w w' → Calls Try.prog 14 [].toArray w' fun e w2 => ∃ b : Bool, e = .returned (.bool b) ∧ (Value.bool b = .bool true ∧ Ext w w2) := fun w' hx => (c14 w').mono fun e w2 ⟨he, hx2⟩ => ⟨true, he, rfl, hx.trans hx2⟩
  refine ⟨fun (b : Bool) w' => w' = w6 ∧ (b = false → Valid h ∧ 2 ≤ h.length), ?_, ?_⟩
  rotate_left
  · refine cond_intro (fun _ => ⟨rfl, fun h => by cases h⟩) (fun hc => ⟨rfl, fun hb => ?_⟩)
    have hc : ¬ x23 = 2 := by simpa using hc
    have hb : ¬ (s.n : Int) < 2 := by simpa using hb
    rcases hc23 with ⟨_, _, h2⟩ | ⟨hv, _, _⟩
    · exact absurd h2 hc
    · exact ⟨hv, by omega⟩
  rintro b w7 ⟨rfl, hb⟩
  refine cond_intro (fun _ => hawake _ hx06) (fun hbf => ?_)
  obtain ⟨hv, h2⟩ := hb hbf
  have h40 : h.length ≤ 40 := hv.2
  have hself := valid_self hv
  rw [hself] at hc23 hc29 hc35
  obtain ⟨hne, i, hi, hpl⟩ := place x1 h2 h40
  rw [hn, hpl]
  have hw1 : IntKind.wrap .i64 ((i : Int) + 1) = ((i + 1 : Nat) : Int) := by rw [wrap64 (by omega) (by omega)]; rfl
  rw [hw1]
  refine ⟨hne, ?_⟩
  refine ⟨fun (p11 p12 : Pt) w10 => p11.o = 0 ∧ p12.o = 0 ∧ Blk w10 p11.b (eO h[i]) 37 ∧ Blk w10 p12.b (eO h[i + 1]) 37 ∧ Ext w7 w10, ?_, ?_⟩
  rotate_left
  · -- the two are laid, in either order
    refine ⟨fun u => Ext w7 u, Ext.drew _, Let.intro fun w9 e9 => ?_⟩
    have hx9 : Ext w7 w9 := by rw [e9]; exact Ext.drew _
    have hsu : ∀ u, Ext w7 u → Hs u s h := fun u hu => hs.ext (hx06.trans hu)
    obtain ⟨p, hp, h1, h2', hr⟩ := Sli.at eO_len hs (i := i) (by omega)
    obtain ⟨q, hq, h3, h4, hr'⟩ := Sli.at eO_len hs (i := i + 1) (by omega)
    have hsame : ∀ {p' : Pt}, s.a = some ⟨p'.b, p'.o, none⟩ → p' = p := fun {p'} h => by
      have e : (⟨p'.b, p'.o, none⟩ : Addr) = ⟨p.b, p.o, none⟩ := Option.some.inj (h.symm.trans hp)
      have e1 : p'.b = p.b := congrArg Addr.block e
      have e2 : p'.o = p.o := congrArg Addr.off e
      cases p'; cases p; simp_all
    have hrd : ∀ (k : Nat) (hk : k < h.length) u, Ext w7 u → rd u p.b (p.o + Int.toNat (k : Int) * 3) (eO h[k]) := fun k hk u hu => by
      obtain ⟨p', hp', _, _, hr'⟩ := Sli.at eO_len (hsu u hu) hk
      rw [hsame hp'] at hr'; exact hr'
    refine ⟨p, hp, h1, by omega, h[i].t, h[i].k, h[i].i, fun u hu => hrd i (by omega) u hu, p, hp, by omega, by omega, h[i + 1].t, h[i + 1].k, h[i + 1].i, fun u hu => hrd (i + 1) (by omega) u hu, ?_⟩
    have hz37 : (zc Try.prog 37).toList.length = 3 := by simp [zc37]
    have hA : ∀ w : World, Blk (w.alloc (.cells (zc Try.prog 37) 37)) w.heap.size (zc Try.prog 37).toList 37 := fun w => by simpa using Blk.alloc w (zc Try.prog 37).toList 37
    constructor
    · refine Let.intro fun w25 e25 => ⟨?_, Let.intro fun w26 e26 => ⟨?_, ?_⟩⟩
      · rw [e25]; exact hx9.trans (Ext.alloc ..)
      · rw [e26, e25]; exact (hx9.trans (Ext.alloc ..)).trans (Ext.alloc ..)
      have hx25 : Ext w9 w25 := by rw [e25]; exact Ext.alloc ..
      have hx26 : Ext w25 w26 := by rw [e26]; exact Ext.alloc ..
      have b9 : Blk w25 w9.heap.size (zc Try.prog 37).toList 37 := by rw [e25]; exact hA w9
      have b25 : Blk w26 w25.heap.size (zc Try.prog 37).toList 37 := by rw [e26]; exact hA w25
      have n9 := b9.lt
      have z9 := hx9.size
      obtain ⟨k1, k2, k3, k4, k5, k6⟩ := two_writes (b9.ext hx26) b25 hz37 hz37 (by omega) h[i] h[i + 1]
      have hx26' : Ext w7 w26 := (hx9.trans hx25).trans hx26
      refine ⟨k1, Let.intro fun w27 e27 => ?_⟩
      have hx27 : Ext w7 w27 := by rw [e27]; exact hx26'.newer k2 fun i hi => by omega
      refine ⟨hx27, by rw [e27]; exact k3, Let.intro fun w28 e28 => ⟨rfl, rfl, by rw [e28, e27]; exact k5, by rw [e28, e27]; exact k6, ?_⟩⟩
      rw [e28]; exact hx27.newer (by rw [e27]; exact k4) fun i hi => by omega
    · refine Let.intro fun w25 e25 => ⟨?_, Let.intro fun w26 e26 => ⟨?_, ?_⟩⟩
      · rw [e25]; exact hx9.trans (Ext.alloc ..)
      · rw [e26, e25]; exact (hx9.trans (Ext.alloc ..)).trans (Ext.alloc ..)
      have hx25 : Ext w9 w25 := by rw [e25]; exact Ext.alloc ..
      have hx26 : Ext w25 w26 := by rw [e26]; exact Ext.alloc ..
      have b9 : Blk w25 w9.heap.size (zc Try.prog 37).toList 37 := by rw [e25]; exact hA w9
      have b25 : Blk w26 w25.heap.size (zc Try.prog 37).toList 37 := by rw [e26]; exact hA w25
      have n9 := b9.lt
      have z9 := hx9.size
      obtain ⟨k1, k2, k3, k4, k5, k6⟩ := two_writes b25 (b9.ext hx26) hz37 hz37 (by omega) h[i] h[i + 1]
      have hx26' : Ext w7 w26 := (hx9.trans hx25).trans hx26
      refine ⟨k1, Let.intro fun w27 e27 => ?_⟩
      have hx27 : Ext w7 w27 := by rw [e27]; exact hx26'.newer k2 fun i hi => by omega
      refine ⟨hx27, by rw [e27]; exact k3, Let.intro fun w28 e28 => ⟨rfl, rfl, by rw [e28, e27]; exact k5, by rw [e28, e27]; exact k6, ?_⟩⟩
      rw [e28]; exact hx27.newer (by rw [e27]; exact k4) fun i hi => by omega
  rintro ⟨b11, o11⟩ ⟨b12, o12⟩ w10 ⟨ho1, ho2, hb11, hb12, hx10⟩
  have ho1 : o11 = 0 := ho1
  have ho2 : o12 = 0 := ho2
  subst ho1
  subst ho2
  have hok := hv.1.1
  have hokx := hok h[i] (List.getElem_mem _)
  have hoky := hok h[i + 1] (List.getElem_mem _)
  refine ⟨fun (b : Bool) w11 => w11 = w10 ∧ (b = false → calm h[i] h[i + 1]), ?_, ?_⟩
  rotate_left
  · have htrue : w10 = w10 ∧ (true = false → calm h[i] h[i + 1]) := ⟨rfl, fun h => by cases h⟩
    refine ⟨_, hb11.cell 0, _, hb12.cell 0, cond_intro (fun _ => htrue) (fun c1 => ?_)⟩
    refine ⟨_, hb11.cell 1, cond_intro (fun _ => htrue) (fun c2 => ?_)⟩
    refine ⟨_, hb12.cell 1, cond_intro (fun _ => htrue) (fun c3 => ?_)⟩
    simp at c1 c2 c3
    unfold okOp at hokx hoky
    refine ⟨_, hb11.cell 2, _, hb12.cell 2, cond_intro (fun c4 => ?_) (fun c4 => ?_)⟩
    · simp at c4
      refine ⟨_, hb11.cell 1, _, hb12.cell 1, rfl, fun hb => ?_⟩
      rw [wrap64 (by omega) (by omega)] at hb
      simp at hb
      exact ⟨c1, by omega, by omega, by omega, by omega, by omega⟩
    · simp at c4
      exact ⟨rfl, fun _ => ⟨c1, by omega, by omega, by omega, by omega, fun e => c4 e.1⟩⟩
  rintro b w11 ⟨rfl, hb⟩
  have hx011 := hx06.trans hx10
  refine cond_intro (fun _ => hawake _ hx011) (fun hbf2 => ?_)
  have hcalm := hb hbf2
  rw [← hn]
  refine (of_ok (hs.ext hx011) hl).mono fun e w13 ⟨s95, he, ho95, hx13⟩ => ⟨s95, he, Let.intro fun w14 e14 => ?_⟩
  have hx14 : Ext w13 w14 := by rw [e14]; exact Ext.drew _
  rw [hself] at ho95
  have ho14 := ho95.ext hx14
  obtain ⟨p, hp, h1, h3, hr⟩ := Sli.at eO_len ho14.sli (i := i + 1) hi
  obtain ⟨q, hq, h4, h5, hr'⟩ := Sli.at eO_len ho14.sli (i := i) (by omega)
  obtain ⟨p2, hp2, h6, h7, hst1, ho15, hf15⟩ := ho14.storeN eO_len eO_one (i := i) (by omega) h[i + 1]
  refine ⟨p, hp, h1, h3, h[i + 1].t, h[i + 1].k, h[i + 1].i, hr, q, hq, h4, h5, h[i].t, h[i].k, h[i].i, hr', p2, hp2, h6, h7, hst1, Let.intro fun w15 e15 => ?_⟩
  have ho15 : Own 38 3 eO w11.heap.size w15 s95 (h.set i h[i + 1]) := by rw [e15]; exact ho15
  have hf15 : Fr (Bl s95) w14 w15 := by rw [e15]; exact hf15
  obtain ⟨p3, hp3, h8, h9, hst2, ho16, hf16⟩ := ho15.storeN eO_len eO_one (i := i + 1) (by simpa using hi) h[i]
  refine ⟨p3, hp3, h8, h9, hst2, Let.intro fun w16 e16 => ?_⟩
  have ho16 : Own 38 3 eO w11.heap.size w16 s95 (exch h i hi) := by rw [e16]; exact ho16
  have hf16 : Fr (Bl s95) w15 w16 := by rw [e16]; exact hf16
  have hx1416 : Ext w11 w16 := ((hx13.trans hx14).newer hf15 fun b ⟨a, ha, hb⟩ => by have := (ho95.base ha).1; omega).newer hf16 fun b ⟨a, ha, hb⟩ => by have := (ho95.base ha).1; omega
  have hx016 := hx011.trans hx1416
  have hle : (exch h i hi).length ≤ 100 := by unfold exch; simp; omega
  have hsw := split_two hi
  have hv2 : Valid (h.take i ++ h[i] :: h[i + 1] :: h.drop (i + 2)) := by rw [← hsw]; exact hv
  obtain ⟨g1, g2, g3⟩ := prog_swap hcalm hv2
  have hve := valid_swap hcalm hv2
  rw [← exch_eq hi] at hve g1 g2 g3
  rw [← hsw] at g1 g2 g3
  refine (c17 ho16.sli hle).mono fun e w17 ⟨s114, x114, he, hc114, hx17⟩ => ⟨s114, x114, he, ?_⟩
  refine (c18 (ho16.sli.ext hx17) hle).mono fun e w18 ⟨s119, x119, he, hc119, hx18⟩ => ⟨s119, x119, he, ?_⟩
  refine (c11 ((ho16.sli.ext hx17).ext hx18) hle).mono fun e w19 ⟨s124, x124, he, hc124, hx19⟩ => ⟨s124, x124, he, ?_⟩
  rcases hc114 with ⟨hno, _⟩ | ⟨_, hi114, hx114⟩
  · exact absurd hve hno
  rcases hc119 with ⟨hno, _⟩ | ⟨_, hi119, hx119⟩
  · exact absurd hve hno
  rcases hc124 with ⟨hno, _⟩ | ⟨_, hi124, hx124⟩
  · exact absurd hve hno
  rcases hc23 with ⟨hno, _⟩ | ⟨_, hi23, hx23⟩
  · exact absurd hv hno
  rcases hc29 with ⟨hno, _⟩ | ⟨_, hi29, hx29⟩
  · exact absurd hv hno
  rcases hc35 with ⟨hno, _⟩ | ⟨_, hi35, hx35⟩
  · exact absurd hv hno
  rw [← g1] at hi114 hx114
  rw [← g2] at hi119 hx119
  rw [← g3] at hi124 hx124
  have hx26 : Ext w2 w19 := ((((((hx3.trans hx4).trans hx5).trans hx6).trans hx10).trans hx1416).trans hx17).trans (hx18.trans hx19)
  refine Join.dir ?_
  refine (c16 (hi23.ext hx26) (hi114.ext (hx18.trans hx19)) (progO_len h)).mono fun e w21 ⟨he, hx21⟩ => ⟨_, he, cond_intro (fun _ => cond_intro (fun _ => ?_) (fun hc => ?_)) (fun hc => ?_)⟩
  · have hx419 : Ext w4 w19 := ((((hx5.trans hx6).trans hx10).trans hx1416).trans hx17).trans (hx18.trans hx19)
    refine (c16 (hi29.ext (hx419.trans hx21)) (hi119.ext (hx19.trans hx21)) (progC_len h)).mono fun e w22 ⟨he, hx22⟩ => ⟨_, he, cond_intro (fun _ => cond_intro (fun _ => ?_) (fun hc => ?_)) (fun hc => ?_)⟩
    · have hx619 : Ext w7 w19 := ((hx10.trans hx1416).trans hx17).trans (hx18.trans hx19)
      refine (c16 (hi35.ext ((hx619.trans hx21).trans hx22)) (hi124.ext (hx21.trans hx22)) (progV_len h)).mono fun e w23 ⟨he, hx23'⟩ => ⟨_, he, cond_intro (fun _ => cond_intro (fun _ => ?_) (fun hc => ?_)) (fun hc => ?_)⟩
      · exact hawake _ ((((((hx016.trans hx17).trans hx18).trans hx19).trans hx21).trans hx22).trans hx23')
      · simp [hx35, hx124] at hc
      · simp at hc
    · simp [hx29, hx119] at hc
    · simp at hc
  · simp [hx23, hx114] at hc
  · simp at hc
end Go.Proofs.Ytnbkihkdfhjlmaa
