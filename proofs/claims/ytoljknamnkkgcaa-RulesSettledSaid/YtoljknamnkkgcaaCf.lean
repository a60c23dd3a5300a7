/-
  Contract: the instances of a rule are handed to a closure, one after another.
-/
import Derived.Test.YtoljknamnkkgcaaCe
namespace Go.Proofs.Ytoljknamnkkgcaa
open Go Go.VC
set_option maxHeartbeats 1000000
set_option maxRecDepth 100000

/-- The values that make the literals without Not facts of a set. -/
def En (In : Ky → Prop) : List Li → List Int → List Int → Prop
  | [], v, u => u = v
  | b :: r, v, u => if b.neg = true then En In r v u else ∃ g v', In g ∧ fitK v b.a g v' ∧ En In r v' u
def NegOk (Nt : Ky → Prop) (body : List Li) (u : List Int) : Prop := ∀ b ∈ body, b.neg = true → ¬ Nt (gnd b.a u)
/-- A set that may be nil. -/
def NotM (w : World) (m : Option Nat) (Nt : Ky → Prop) : Prop := (m = none ∧ ∀ k, ¬ Nt k) ∨ ∃ b, m = some b ∧ FM w b Nt
theorem NotM.look {w : World} {m : Option Nat} {Nt : Ky → Prop} (h : NotM w m Nt) (k : Ky) :
    ∃ r : Bool, (Instr.lookup 105 (.map m) (.agg [.int .i64 k.rel, .int .i64 k.a, .int .i64 k.b].toArray) false).run Try.prog w = .ok (.bool r) w ∧ (r = true ↔ Nt k) := by
  rcases h with ⟨rfl, h⟩ | ⟨b, rfl, h⟩
  · exact ⟨false, look_nil K121 u105 zero4 k, by simp [h k]⟩
  · exact h.look K121 u105 zero4 k

/-! ### what calls of a closure may change -/
structure Rl (own : World → Nat → Prop) (w w' : World) : Prop where
  fr : Fr (own w) w w'
  ow : ∀ b, b < w.heap.size → own w' b → own w b
theorem Rl.refl (own : World → Nat → Prop) (w : World) : Rl own w w := ⟨Fr.refl _ _, fun _ _ h => h⟩
theorem Rl.trans {own : World → Nat → Prop} {a b c : World} (h : Rl own a b) (k : Rl own b c) : Rl own a c :=
  ⟨h.fr.trans k.fr fun i hi ho => h.ow i hi ho, fun i hi ho => h.ow i hi (k.ow i (Nat.lt_of_lt_of_le hi h.fr.size) ho)⟩
theorem Rl.ext {own : World → Nat → Prop} {w w' : World} (x : Ext w w') (h : ∀ b, own w' b → own w b) : Rl own w w' := ⟨x.mono fun _ _ h => h.elim, fun b _ h' => h b h'⟩
/-- A block that the calls keep. -/
structure Kp (own : World → Nat → Prop) (w : World) (q : Nat) (l : List Value) (T : TypeId) : Prop where
  b : Blk w q l T
  n : ¬ own w q
theorem Kp.rl {own : World → Nat → Prop} {w w' : World} {q : Nat} {l : List Value} {T : TypeId} (h : Kp own w q l T) (k : Rl own w w') : Kp own w' q l T := ⟨h.b.fr k.fr h.n, fun h' => h.n (k.ow q h.b.lt h')⟩
/-- What a closure that is called leaves: I, of the values handed to it. -/
structure Cb (own : World → Nat → Prop) (I : List (List Int) → World → Prop) : Prop where
  ext : ∀ {vs w w'}, I vs w → Ext w w' → I vs w' ∧ ∀ b, own w' b → own w b
  lt : ∀ {vs w b}, I vs w → own w b → b < w.heap.size
theorem Cb.rl {own : World → Nat → Prop} {I : List (List Int) → World → Prop} (C : Cb own I) {vs : List (List Int)} {w w' : World} (h : I vs w) (x : Ext w w') : I vs w' ∧ Rl own w w' := ⟨(C.ext h x).1, Rl.ext x (C.ext h x).2⟩
theorem Cb.kp {own : World → Nat → Prop} {I : List (List Int) → World → Prop} (C : Cb own I) {vs : List (List Int)} {w w' : World} (h : I vs w) (x : Ext w w') {q : Nat} {l : List Value} {T : TypeId} (hb : Blk w' q l T) (hq : w.heap.size ≤ q) : Kp own w' q l T :=
  ⟨hb, fun ho => by have := C.lt h ((C.ext h x).2 q ho); omega⟩

/-! ### the recursion -/
def capT (R0 N0 F0 T0 B0 : Nat) : List Value := [.pointer (some ⟨R0, 0, none⟩), .pointer (some ⟨N0, 0, none⟩), .pointer (some ⟨F0, 0, none⟩), .pointer (some ⟨T0, 0, none⟩), .pointer (some ⟨B0, 0, none⟩)]
structure GearAt (w : World) (r : DR) (m2 : Option Nat) (Nt : Ky → Prop) (f : Nat) (c : List Value) (R0 N0 F0 T0 B0 Q : Nat) (bs : Int → Sl) (bk : Int → List Ky) : Prop where
  rb : Blk w R0 (eR r) 52
  nb : Blk w N0 [.map m2] 105
  fb : Blk w F0 [.func (.func f) #[] c.toArray] 180
  tb : Blk w T0 [.func (.func 127) #[] (capT R0 N0 F0 T0 B0).toArray] 192
  bb : Blk w B0 [.map (some Q)] 191
  ro : RulOk w r
  nm : NotM w m2 Nt
  lk : ∀ rel : Int, (Instr.lookup 191 (.map (some Q)) (.int .i64 rel) false).run Try.prog w = .ok (.slice (bs rel).a (bs rel).n (bs rel).c) w
  sl : ∀ rel : Int, Sli 3 eK w (bs rel) (bk rel)
theorem callable127 : callable Try.prog 127 = true := by kernel_rfl
section
variable {own : World → Nat → Prop} {I : List (List Int) → World → Prop} {wC : World} {r : DR} {m2 : Option Nat} {Nt In : Ky → Prop} {f : Nat} {c : List Value} {R0 N0 F0 T0 B0 Q : Nat} {bs : Int → Sl} {bk : Int → List Ky} {P : List Int → Prop}
theorem c127 (C : Cb own I) (G : ∀ w, Rl own wC w → GearAt w r m2 Nt f c R0 N0 F0 T0 B0 Q bs bk) (hbk : ∀ rel k, k ∈ bk rel ↔ In k ∧ k.rel = rel) (hbl : ∀ rel, (bk rel).length ≤ 1000) (hca : callable Try.prog f = true)
    (Bnd : Nat) (hcall : ∀ vs v w, Rl own wC w → I vs w → vs.length < Bnd → v.length = 8 → P v → Calls Try.prog f (([.agg (vI v).toArray] : List Value) ++ c).toArray w fun e w' => e = .returned (.tuple [].toArray) ∧ I (vs ++ [v]) w' ∧ Rl own w w')
    (hat : ∀ b ∈ r.body, AtOk b.a.p) (hb3 : r.body.length ≤ 1000) :
    ∀ (n k : Nat), r.body.length - k = n → k ≤ r.body.length → ∀ (v : List Int) (vs : List (List Int)) (w : World), Rl own wC w → I vs w → vs.length + 1000 ^ (r.body.length - k) ≤ Bnd → v.length = 8 → (∀ u, En In ((r.body.map DL.p).drop k) v u → NegOk Nt (r.body.map DL.p) u → P u) →
      Calls Try.prog 127 [.int .i64 (k : Int), .agg (vI v).toArray, .pointer (some ⟨R0, 0, none⟩), .pointer (some ⟨N0, 0, none⟩), .pointer (some ⟨F0, 0, none⟩), .pointer (some ⟨T0, 0, none⟩), .pointer (some ⟨B0, 0, none⟩)].toArray w fun e w' =>
        e = .returned (.tuple [].toArray) ∧ ∃ vs', I (vs ++ vs') w' ∧ vs'.length ≤ 1000 ^ (r.body.length - k) ∧ Rl own w w' ∧ ∀ u, u ∈ vs' ↔ En In ((r.body.map DL.p).drop k) v u ∧ NegOk Nt (r.body.map DL.p) u := by
  intro n
  induction n with
  | zero =>
    intro k hk hkl v vs w hw hI hB hv hP
    have hk : k = r.body.length := by omega
    subst hk
    rw [Nat.sub_self] at hB
    refine (call127 (r.body.length : Nat) (vI v) ⟨R0, 0⟩ ⟨N0, 0⟩ ⟨F0, 0⟩ ⟨T0, 0⟩ ⟨B0, 0⟩ (R := fun u w' => u = .tuple [].toArray ∧ ∃ vs', I (vs ++ vs') w' ∧ vs'.length ≤ 1000 ^ (r.body.length - r.body.length) ∧ Rl own w w' ∧ ∀ u, u ∈ vs' ↔ En In ((r.body.map DL.p).drop r.body.length) v u ∧ NegOk Nt (r.body.map DL.p) u) ?_).mono fun e w' ⟨u, he, hu, hx⟩ => ⟨by rw [he, hu], hx⟩
    have hen : ∀ u, En In ((r.body.map DL.p).drop r.body.length) v u ↔ u = v := fun u => by rw [List.drop_eq_nil_of_le (by simp)]; rfl
    refine Let.intro fun w1 e1 => ?_
    have b1 : Blk w1 w.heap.size (vI v) 178 := by rw [e1]; exact Blk.alloc w _ 178
    have x1 : Ext w w1 := by rw [e1]; exact Ext.alloc ..
    obtain ⟨hI1, R1⟩ := C.rl hI x1
    have G1 := G w1 (hw.trans R1)
    have hbn := G1.ro.bd.len
    refine ⟨r.bs, G1.rb.cell 2, cond_intro (fun _ => ?_) (fun h => by simp at h; omega)⟩
    refine ⟨r.bs, G1.rb.cell 2, ?_⟩
    refine ⟨fun w2 => Ext w1 w2 ∧ NegOk Nt (r.body.map DL.p) v, ?_, ?_⟩
    · rintro w2 ⟨x2, hneg⟩
      obtain ⟨hI2, R2⟩ := C.rl hI1 x2
      have G2 := G w2 ((hw.trans R1).trans R2)
      refine ⟨f, c, G2.fb.cell 0, vI v, by rw [vI_len, hv], (b1.ext x2).rd, ?_⟩
      rw [hca]
      refine (hcall vs v w2 ((hw.trans R1).trans R2) hI2 (by omega) hv (hP v ((hen v).2 rfl) hneg)).mono fun e w3 ⟨he, hI3, R3⟩ => ⟨he, rfl, [v], hI3, by simp, (R1.trans R2).trans R3, fun u => ?_⟩
      rw [hen]
      simp only [List.mem_singleton]
      exact ⟨fun h => ⟨h, h ▸ hneg⟩, fun h => h.1⟩
    · refine rangeI (fun i w4 => Ext w1 w4 ∧ ∀ b ∈ (r.body.map DL.p).take i, b.neg = true → ¬ Nt (gnd b.a v)) (by rw [hbn]; show r.body.length ≤ 9223372036854775807; omega) ⟨Fr.refl _ _, by simp⟩ ?_ ?_
      · rintro i hi w4 ⟨x4, hno⟩ K hK
        have hi : i < r.body.length := by omega
        obtain ⟨hI4, R4⟩ := C.rl hI1 x4
        have G4 := G w4 ((hw.trans R1).trans R4)
        have hmap : (r.body.map DL.p)[i]'(by simpa using hi) = (r.body[i]).p := by simp
        refine loadL G4.ro.bd hi fun w7 b7 x7 => ?_
        have x17 := x4.trans x7
        have bv7 := b1.ext x17
        refine ⟨fun (b37 : Bool) w8 => (b37 = true ↔ (r.body[i].neg = true ∧ Nt (gnd (r.body[i]).p.a v))) ∧ Ext w1 w8, ?_, ?_⟩
        · rintro b37 w8 ⟨hb37, x8⟩
          refine cond_intro (fun g => ?_) (fun g => ?_)
          · obtain ⟨hI8, R8⟩ := C.rl hI1 x8
            refine ⟨rfl, [], by simpa using hI8, by simp, R1.trans R8, fun u => ?_⟩
            have hg := hb37.1 g
            rw [hen]
            simp only [List.not_mem_nil, false_iff, not_and]
            rintro rfl hneg
            exact hneg (r.body[i]).p (List.mem_map.2 ⟨_, List.getElem_mem hi, rfl⟩) hg.1 hg.2
          · refine hK _ ⟨x8, fun b hb hbn => ?_⟩
            rw [List.take_succ_eq_append_getElem (by simpa using hi), List.mem_append, List.mem_singleton, hmap] at hb
            rcases hb with hb | hb
            · exact hno b hb hbn
            · subst hb
              intro hnt
              rw [hb37.2 ⟨hbn, hnt⟩] at g; cases g
        · refine ⟨fun u => Ext w7 u, Ext.drew _, Let.intro fun w9 e9 => ?_⟩
          have x9 : Ext w7 w9 := by rw [e9]; exact Ext.drew _
          refine ⟨r.body[i].neg, fun u hu => (b7.ext hu).cell 0, cond_intro (fun g => ?_) (fun g => ⟨by simp [g], x17.trans x9⟩)⟩
          have hnb : ∀ u, Ext w7 u → Blk u N0 [.map m2] 105 := fun u hu => (G4.nb.ext x7).ext hu
          have hint : Ints w9 (r.body[i]).a.sl (r.body[i]).a.args := ((G4.ro.bd.ok _ (List.getElem_mem hi)).ext x7).ext x9
          refine ⟨m2, fun u hu => (hnb u hu).cell 0, vI v, by rw [vI_len, hv], fun u hu => (bv7.ext hu).rd, (r.body[i]).a.rel, (r.body[i]).a.sl, fun u hu => ?_, ?_⟩
          · exact (b7.ext hu).rd_drop (o := 1) fun j x hx => by
              rcases j with _ | _ | j
              · simpa [eL] using hx
              · simpa [eL] using hx
              · simp at hx
          refine (c115 (x := (r.body[i]).a) hv hint (hat _ (List.getElem_mem hi))).mono fun e w10 ⟨he, x10⟩ => ⟨_, _, _, he, x9.trans x10, ?_⟩
          obtain ⟨hI10, R10⟩ := C.rl hI1 ((x17.trans x9).trans x10)
          have G10 := G w10 ((hw.trans R1).trans R10)
          obtain ⟨b, _, hbn⟩ := G10.nm.look (gnd (r.body[i]).p.a v)
          refine ⟨b, fun u hu => ?_, ?_⟩
          · obtain ⟨hIu, Ru⟩ := C.rl hI1 (x17.trans hu)
            have Gu := G u ((hw.trans R1).trans Ru)
            obtain ⟨b', hr, hbn'⟩ := Gu.nm.look (gnd (r.body[i]).p.a v)
            have : b' = b := by
              cases b <;> cases b' <;> simp_all
            subst this
            exact hr
          · exact ⟨by rw [hbn]; simp [g], (x17.trans x9).trans x10⟩
      · rintro w5 ⟨x5, hno⟩
        refine ⟨x5, fun b hb hbneg => hno b ?_ hbneg⟩
        rw [hbn, List.take_of_length_le (by simp)]; exact hb
  | succ n ih =>
    intro k hk hkl v vs w hw hI hB hv hP
    have hkb : k < r.body.length := by omega
    have hpw : 1000 ^ (r.body.length - k) = 1000 ^ (r.body.length - (k + 1)) * 1000 := by rw [← Nat.pow_succ]; congr 1; omega
    have hp1 : 1 ≤ 1000 ^ (r.body.length - (k + 1)) := Nat.one_le_pow _ _ (by omega)
    refine (call127 (k : Nat) (vI v) ⟨R0, 0⟩ ⟨N0, 0⟩ ⟨F0, 0⟩ ⟨T0, 0⟩ ⟨B0, 0⟩ (R := fun u w' => u = .tuple [].toArray ∧ ∃ vs', I (vs ++ vs') w' ∧ vs'.length ≤ 1000 ^ (r.body.length - k) ∧ Rl own w w' ∧ ∀ u, u ∈ vs' ↔ En In ((r.body.map DL.p).drop k) v u ∧ NegOk Nt (r.body.map DL.p) u) ?_).mono fun e w' ⟨u, he, hu, hx⟩ => ⟨by rw [he, hu], hx⟩
    have hd : (r.body.map DL.p).drop k = (r.body[k]).p :: (r.body.map DL.p).drop (k + 1) := by
      rw [List.drop_eq_getElem_cons (by simpa using hkb)]; simp
    rw [hd] at hP ⊢
    refine Let.intro fun w1 e1 => ?_
    have b1 : Blk w1 w.heap.size (vI v) 178 := by rw [e1]; exact Blk.alloc w _ 178
    have x1 : Ext w w1 := by rw [e1]; exact Ext.alloc ..
    obtain ⟨hI1, R1⟩ := C.rl hI x1
    have k1 := C.kp hI x1 b1 (Nat.le_refl _)
    have G1 := G w1 (hw.trans R1)
    have hbn := G1.ro.bd.len
    refine ⟨r.bs, G1.rb.cell 2, cond_intro (fun h => by simp at h; omega) (fun _ => ?_)⟩
    refine ⟨r.bs, G1.rb.cell 2, loadL G1.ro.bd hkb fun w12 b12 x12 => ?_⟩
    obtain ⟨hI12, R12⟩ := C.rl hI1 x12
    have k1 := k1.rl R12
    have k12 := C.kp hI1 x12 b12 (Nat.le_refl _)
    have hw12 := (hw.trans R1).trans R12
    have G12 := G w12 hw12
    have hp : (r.body[k]).p.neg = r.body[k].neg := rfl
    have ewk : IntKind.wrap .i64 ((k : Int) + 1) = ((k + 1 : Nat) : Int) := by rw [wrap64 (by omega) (by omega)]; rfl
    rw [ewk]
    refine ⟨r.body[k].neg, b12.cell 0, cond_intro (fun g => ?_) (fun g => ?_)⟩
    · refine ⟨127, capT R0 N0 F0 T0 B0, G12.tb.cell 0, vI v, by rw [vI_len, hv], k1.b.rd, ?_⟩
      rw [callable127]
      refine (ih (k + 1) (by omega) (by omega) v vs w12 hw12 hI12 (by omega) hv fun u h1 h2 => hP u (by rw [En, if_pos (by rw [hp]; exact g)]; exact h1) h2).mono fun e w13 ⟨he, vs', hI', hl', R', hu⟩ => ⟨he, rfl, vs', hI', by omega, (R1.trans R12).trans R', fun u => ?_⟩
      rw [hu, En, if_pos (by rw [hp]; exact g)]
    · have hnp : ¬ (r.body[k]).p.neg = true := by rw [hp, g]; simp
      have hen : ∀ v u, En In ((r.body[k]).p :: (r.body.map DL.p).drop (k + 1)) v u ↔ ∃ g v', In g ∧ fitK v (r.body[k]).p.a g v' ∧ En In ((r.body.map DL.p).drop (k + 1)) v' u := fun v u => by rw [En, if_neg hnp]
      refine ⟨some Q, G12.bb.cell 0, (r.body[k]).a.rel, b12.cell 1, _, G12.lk _, Join.dir ?_⟩
      generalize hrel : (r.body[k]).a.rel = rel
      have hsn : ∀ w', Rl own wC w' → Sli 3 eK w' (bs rel) (bk rel) := fun w' h => (G w' h).sl rel
      have hn := (hsn w12 hw12).len
      refine rangeI (fun i w15 => ∃ vs', I (vs ++ vs') w15 ∧ vs'.length ≤ i * 1000 ^ (r.body.length - (k + 1)) ∧ Rl own w12 w15 ∧ ∀ u, u ∈ vs' ↔ (∃ g ∈ (bk rel).take i, ∃ v', fitK v (r.body[k]).p.a g v' ∧ En In ((r.body.map DL.p).drop (k + 1)) v' u) ∧ NegOk Nt (r.body.map DL.p) u) (by rw [hn]; have := hbl rel; show (bk rel).length ≤ 9223372036854775807; omega) ⟨[], by simpa using hI12, by simp, Rl.refl _ _, fun u => by simp⟩ ?_ ?_
      · rintro i hi w15 ⟨vs', hI15, hl15, R15, hu15⟩ K hK
        have hi : i < (bk rel).length := by omega
        have hbl' := hbl rel
        have hmul : (i + 1) * 1000 ^ (r.body.length - (k + 1)) ≤ 1000 * 1000 ^ (r.body.length - (k + 1)) := Nat.mul_le_mul_right _ (by omega)
        rw [Nat.add_mul, Nat.one_mul] at hmul
        have hw15 := hw12.trans R15
        have k1 := k1.rl R15
        have k12 := k12.rl R15
        have G15 := G w15 hw15
        obtain ⟨p, hp', a1, a2, hr⟩ := Sli.at eK_len (hsn w15 hw15) hi
        obtain ⟨m1, m2', m3⟩ := new_eK w15 (bk rel)[i]
        have hmem := (hbk rel _).1 (List.getElem_mem hi)
        generalize hgk : (bk rel)[i] = gk at hr m1 m2' m3 hmem
        refine ⟨p, hp', a1, a2, _, _, _, hr, Let.intro fun w17 e17 => ?_⟩
        rw [← e17] at m1 m2' m3
        refine ⟨m1, Let.intro fun w18 e18 => ?_⟩
        have e18 : w18 = put w17 w15.heap.size 0 (eK gk) := e18
        rw [← e18] at m2' m3
        obtain ⟨hI18, R18⟩ := C.rl hI15 m3
        have hw18 := hw15.trans R18
        have G18 := G w18 hw18
        have hint : Ints w18 (r.body[k]).a.sl (r.body[k]).a.args := G18.ro.bd.ok _ (List.getElem_mem hkb)
        refine ⟨vI v, by rw [vI_len, hv], (k1.rl R18).b.rd, (r.body[k]).a.rel, (r.body[k]).a.sl, ?_, _, _, _, m2'.rd, ?_⟩
        · exact (k12.rl R18).b.rd_drop (o := 1) fun j x hx => by
            rcases j with _ | _ | j
            · simpa [eL] using hx
            · simpa [eL] using hx
            · simp at hx
        refine (c128 (x := (r.body[k]).a) (k := gk) hv hint (hat _ (List.getElem_mem hkb))).mono fun e w19 ⟨v', b, he, hv', hbt, hbf, x19⟩ => ⟨vI v', by rw [vI_len, hv'], b, he, ?_⟩
        obtain ⟨n1, n2, n3⟩ := new_var w19 178 (z := zc Try.prog 178) (vs := vI v') (by have := congrArg List.length zc178; simpa [vI, hv'] using this) (vI_one _)
        rw [vI_len, hv'] at n1
        refine Let.intro fun w20 e20 => ?_
        rw [← e20] at n1 n2 n3
        refine ⟨n1, Let.intro fun w21 e21 => ?_⟩
        rw [← e21] at n2 n3
        obtain ⟨hI21, R21⟩ := C.rl hI18 (x19.trans n3)
        have hw21 := hw18.trans R21
        have G21 := G w21 hw21
        have hstep : ∀ (vs'' : List (List Int)), (∀ u, u ∈ vs'' ↔ (∃ v', fitK v (r.body[k]).p.a gk v' ∧ En In ((r.body.map DL.p).drop (k + 1)) v' u) ∧ NegOk Nt (r.body.map DL.p) u) →
            ∀ u, u ∈ vs' ++ vs'' ↔ (∃ g ∈ (bk rel).take (i + 1), ∃ v', fitK v (r.body[k]).p.a g v' ∧ En In ((r.body.map DL.p).drop (k + 1)) v' u) ∧ NegOk Nt (r.body.map DL.p) u := fun vs'' h u => by
          rw [List.mem_append, hu15, h, List.take_succ_eq_append_getElem hi, hgk]
          constructor
          · rintro (⟨⟨g, hg, h1⟩, h2⟩ | ⟨h1, h2⟩)
            · exact ⟨⟨g, List.mem_append_left _ hg, h1⟩, h2⟩
            · exact ⟨⟨gk, by simp, h1⟩, h2⟩
          · rintro ⟨⟨g, hg, h1⟩, h2⟩
            rcases List.mem_append.1 hg with hg | hg
            · exact .inl ⟨⟨g, hg, h1⟩, h2⟩
            · simp only [List.mem_singleton] at hg
              subst hg; exact .inr ⟨h1, h2⟩
        refine Join.dir (cond_intro (fun g2 => ?_) (fun g2 => ?_))
        · have hfit := hbt g2
          refine ⟨127, capT R0 N0 F0 T0 B0, G21.tb.cell 0, vI v', by rw [vI_len, hv'], n2.rd, ?_⟩
          rw [callable127]
          refine (ih (k + 1) (by omega) (by omega) v' (vs ++ vs') w21 hw21 hI21 (by rw [List.length_append]; omega) hv' fun u h1 h2 => hP u ((hen v u).2 ⟨gk, v', hmem.1, hfit, h1⟩) h2).mono fun e w23 ⟨he, vs'', hI', hl'', R', hu⟩ => ⟨he, hK _ ⟨vs' ++ vs'', by rw [← List.append_assoc]; exact hI', by rw [List.length_append, Nat.add_mul, Nat.one_mul]; omega, ((R15.trans R18).trans R21).trans R', hstep vs'' fun u => ?_⟩⟩
          rw [hu]
          constructor
          · rintro ⟨h1, h2⟩; exact ⟨⟨v', hfit, h1⟩, h2⟩
          · rintro ⟨⟨v2, h1, h3⟩, h2⟩
            have : v2 = v' := by
              have e1 := h1.2
              have e2 := hfit.2
              exact Option.some.inj (e1.symm.trans e2)
            subst this
            exact ⟨h3, h2⟩
        · refine hK _ ⟨vs' ++ [], by simpa using hI21, by rw [List.append_nil, Nat.add_mul]; omega, (R15.trans R18).trans R21, hstep [] fun u => ?_⟩
          simp only [List.not_mem_nil, false_iff, not_and]
          rintro ⟨v2, h1, _⟩
          exact absurd h1 (hbf g2 v2)
      · rintro w14 ⟨vs', hI14, hl14, R14, hu14⟩
        have hmul : (bs rel).n * 1000 ^ (r.body.length - (k + 1)) ≤ 1000 * 1000 ^ (r.body.length - (k + 1)) := Nat.mul_le_mul_right _ (by rw [hn]; exact hbl rel)
        refine ⟨rfl, vs', hI14, by omega, (R1.trans R12).trans R14, fun u => ?_⟩
        rw [hu14, hen, hn, List.take_length]
        constructor
        · rintro ⟨⟨g, hg, v', h1, h2⟩, h3⟩
          exact ⟨⟨g, v', ((hbk rel g).1 hg).1, h1, h2⟩, h3⟩
        · rintro ⟨⟨g, v', h0, h1, h2⟩, h3⟩
          exact ⟨⟨g, (hbk rel g).2 ⟨h0, by rw [← h1.1, ← hrel]; rfl⟩, v', h1, h2⟩, h3⟩
end
end Go.Proofs.Ytoljknamnkkgcaa
