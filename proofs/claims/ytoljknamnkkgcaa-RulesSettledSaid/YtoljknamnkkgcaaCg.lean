/-
  Contract: instances: facts by their Rel, then the recursion.
-/
import Derived.Test.YtoljknamnkkgcaaCf
namespace Go.Proofs.Ytoljknamnkkgcaa
open Go Go.VC
set_option maxHeartbeats 1000000
set_option maxRecDepth 100000

theorem E150 : Elem Try.prog 150 121 3 24 := Elem.of (by kernel_rfl) (by kernel_rfl) (by decide)
theorem K3 : KeyOk Try.prog 3 (fun n : Int => Value.int .i64 n) := KeyOk.int (by kernel_rfl)
theorem u191 : Try.prog.underlying 191 = some (.map 3 150) := by kernel_rfl
theorem zeroSl {t : TypeId} (h : (Try.prog.info? t).map (fun i => i.zero) = some (some (.slice none 0 0))) : ∀ w, (zeroValue t).run Try.prog w = .ok (.slice none 0 0) w := fun w => by
  cases hi : Try.prog.info? t with
  | none => rw [hi] at h; cases h
  | some i =>
    rw [hi] at h
    have hz : i.zero = some (.slice none 0 0) := by simpa using h
    simp [zeroValue, typeInfo, hi, hz]
theorem zero150 : ∀ w, (zeroValue 150).run Try.prog w = .ok (.slice none 0 0) w := zeroSl (by kernel_rfl)
theorem zc191 : (zc Try.prog 191).size = 1 := by kernel_rfl
theorem zc192 : (zc Try.prog 192).size = 1 := by kernel_rfl
abbrev veS (s : Sl) : Value := .slice s.a s.n s.c
def nilS : Sl := ⟨none, 0, 0⟩
/-- The keys, by their Rel. -/
structure ByR (B : Nat) (w : World) (Q : Nat) (ks : List Ky) (bs : Int → Sl) (bk : Int → List Ky) : Prop where
  mp : ∃ (l : List (Ent Int Sl)) (c : Nat), Mp (fun n : Int => Value.int .i64 n) veS w Q l c ∧ ∀ rel, (mget l rel).getD nilS = bs rel
  own : ∀ rel, Own 121 3 eK B w (bs rel) (bk rel)
  ap : ∀ rel rel', rel ≠ rel' → ∀ a a', (bs rel).a = some a → (bs rel').a = some a' → a.block ≠ a'.block
  mem : ∀ rel k, k ∈ bk rel ↔ k ∈ ks ∧ k.rel = rel
  len : ∀ rel, (bk rel).length ≤ ks.length
theorem ByR.fr {M : Nat → Prop} {B Q : Nat} {w w' : World} {ks : List Ky} {bs : Int → Sl} {bk : Int → List Ky} (h : ByR B w Q ks bs bk) (f : Fr M w w') (h1 : ¬ M Q) (h2 : ∀ b, B ≤ b → ¬ M b) : ByR B w' Q ks bs bk := by
  obtain ⟨l, c, hm, hl⟩ := h.mp
  exact ⟨⟨l, c, hm.fr f h1, hl⟩, fun rel => (h.own rel).fr f fun a ha => h2 _ ((h.own rel).base ha).1, h.ap, h.mem, h.len⟩
theorem ByR.look {B Q : Nat} {w : World} {ks : List Ky} {bs : Int → Sl} {bk : Int → List Ky} (h : ByR B w Q ks bs bk) (rel : Int) : (Instr.lookup 191 (.map (some Q)) (.int .i64 rel) false).run Try.prog w = .ok (.slice (bs rel).a (bs rel).n (bs rel).c) w := by
  obtain ⟨l, c, hm, hl⟩ := h.mp
  have := (look_run K3 u191 hm zero150 rel).1
  rw [this, ← hl rel]
  cases mget l rel <;> rfl
def z8 : List Int := [0, 0, 0, 0, 0, 0, 0, 0]
section
variable {own : World → Nat → Prop} {I : List (List Int) → World → Prop} {r : DR} {m2 : Option Nat} {Nt In : Ky → Prop} {f : Nat} {c : List Value} {P : List Int → Prop} {vs : List (List Int)} {w : World} {inB : Nat}
theorem c113 (C : Cb own I) (hI : I vs w) (hro : ∀ w', Rl own w w' → RulOk w' r) (hin : FM w inB In) (few : Few In) (hnm : ∀ w', Rl own w w' → NotM w' m2 Nt) (hca : callable Try.prog f = true)
    (Bnd : Nat) (hB : vs.length + 1000 ^ r.body.length ≤ Bnd) (hcall : ∀ vs v w', Rl own w w' → I vs w' → vs.length < Bnd → v.length = 8 → P v → Calls Try.prog f (([.agg (vI v).toArray] : List Value) ++ c).toArray w' fun e w2 => e = .returned (.tuple [].toArray) ∧ I (vs ++ [v]) w2 ∧ Rl own w' w2)
    (hat : ∀ b ∈ r.body, AtOk b.a.p) (hb3 : r.body.length ≤ 1000) (hP : ∀ u, En In (r.body.map DL.p) z8 u → NegOk Nt (r.body.map DL.p) u → P u) :
    Calls Try.prog 113 [.agg [.int .i64 r.head.rel, .slice r.head.sl.a r.head.sl.n r.head.sl.c, .slice r.bs.a r.bs.n r.bs.c].toArray, .map (some inB), .map m2, .func (.func f) #[] c.toArray].toArray w fun e w' =>
      e = .returned (.tuple [].toArray) ∧ ∃ vs', I (vs ++ vs') w' ∧ vs'.length ≤ 1000 ^ r.body.length ∧ Rl own w w' ∧ ∀ u, u ∈ vs' ↔ En In (r.body.map DL.p) z8 u ∧ NegOk Nt (r.body.map DL.p) u := by
  refine (call113 r.head.rel r.head.sl r.bs (some inB) m2 f c (R := fun u w' => u = .tuple [].toArray ∧ ∃ vs', I (vs ++ vs') w' ∧ vs'.length ≤ 1000 ^ r.body.length ∧ Rl own w w' ∧ ∀ u, u ∈ vs' ↔ En In (r.body.map DL.p) z8 u ∧ NegOk Nt (r.body.map DL.p) u) ?_).mono fun e w' ⟨u, he, hu, hx⟩ => ⟨by rw [he, hu], hx⟩
  refine Let.intro fun w1 e1 => ?_
  have b1 : Blk w1 w.heap.size (eR r) 52 := by rw [e1]; exact Blk.alloc w (eR r) 52
  have x1 : Ext w w1 := by rw [e1]; exact Ext.alloc ..
  refine Let.intro fun w2 e2 => ?_
  have b2 : Blk w2 w1.heap.size [.map m2] 105 := by rw [e2]; exact Blk.alloc w1 [.map m2] 105
  have x2 : Ext w1 w2 := by rw [e2]; exact Ext.alloc ..
  refine Let.intro fun w3 e3 => ?_
  have b3 : Blk w3 w2.heap.size [.func (.func f) #[] c.toArray] 180 := by rw [e3]; exact Blk.alloc w2 [.func (.func f) #[] c.toArray] 180
  have x3 : Ext w2 w3 := by rw [e3]; exact Ext.alloc ..
  refine Let.intro fun w4 e4 => ?_
  have m4 : Mp (fun n : Int => Value.int .i64 n) veS w4 w3.heap.size ([] : List (Ent Int Sl)) 0 := by rw [e4]; exact Mp.made w3
  have x4 : Ext w3 w4 := by rw [e4]; exact Ext.alloc ..
  obtain ⟨n1, n2, n3⟩ := new_var w4 191 (z := zc Try.prog 191) (vs := [.map (some w3.heap.size)]) (by rw [zc191]; rfl) (by simp [Value.oneCell'])
  refine Let.intro fun w5 e5 => ?_
  rw [← e5] at n1 n2 n3
  refine ⟨n1, Let.intro fun w6 e6 => ?_⟩
  rw [← e6] at n2 n3
  obtain ⟨l, ci, hmp, hnd, hmem, _⟩ := hin.list
  obtain ⟨U, hU, hsub⟩ := few
  have hll : l.length ≤ 1000 := by
    have := hnd.length_le_of_subset (l₂ := U) fun k hk => hsub k ((hmem k).2 hk)
    simp at this; omega
  have x06 := (((x1.trans x2).trans x3).trans x4).trans n3
  obtain ⟨w7, hr7, x7, hit, hmp7⟩ := range_run (P := Try.prog) u105 (hmp.ext x06)
  refine ⟨⟨w6.heap.size, 0⟩, w7, hr7, ?_⟩
  have x07 := x06.trans x7
  have l1 := b1.lt
  have l2 := b2.lt
  have l3 := b3.lt
  have l4 := m4.bound
  have l6 := n2.lt
  have l7 : w6.heap.size < w7.heap.size := hit.bound
  have z1 := x1.size
  have z2 := x2.size
  have z3 := x3.size
  have z4 := x4.size
  have z6 := n3.size
  have lin := hmp.bound
  have b1 := ((((b1.ext x2).ext x3).ext x4).ext n3).ext x7
  have b2 := (((b2.ext x3).ext x4).ext n3).ext x7
  have b3 := ((b3.ext x4).ext n3).ext x7
  have m7 := (m4.ext n3).ext x7
  have b5 := n2.ext x7
  -- what is gathered
  refine ⟨fun w8 => ∃ bs bk, ByR w7.heap.size w8 w3.heap.size (l.map (·.1)) bs bk ∧ Fr (fun y => y = w6.heap.size ∨ y = w3.heap.size) w7 w8, ?_, ?_⟩
  · rintro w8 ⟨bs, bk, hby, f8⟩
    have x08 : Ext w w8 := x07.newer f8 fun y hy => by rcases hy with rfl | rfl <;> omega
    have b1 := b1.fr f8 (by omega)
    have b2 := b2.fr f8 (by omega)
    have b3 := b3.fr f8 (by omega)
    have b5 := b5.fr f8 (by omega)
    have l8 := f8.size
    obtain ⟨p1, p2, p3⟩ := new_var w8 192 (z := zc Try.prog 192) (vs := [.func (.func 127) #[] (capT w.heap.size w1.heap.size w2.heap.size w8.heap.size w4.heap.size).toArray]) (by rw [zc192]; rfl) (by simp [Value.oneCell'])
    refine Let.intro fun w9 e9 => ?_
    rw [← e9] at p1 p2 p3
    refine ⟨p1, Let.intro fun w10 e10 => ?_⟩
    have e10 : w10 = put w9 w8.heap.size 0 [.func (.func 127) #[] (capT w.heap.size w1.heap.size w2.heap.size w8.heap.size w4.heap.size).toArray] := e10
    rw [← e10] at p2 p3
    have x10 := x08.trans p3
    obtain ⟨hI10, R10⟩ := C.rl hI x10
    have hno : ∀ b, w.heap.size ≤ b → ¬ own w10 b := fun b hb ho => by
      have := C.lt hI ((C.ext hI x10).2 b ho); omega
    have kb1 : Kp own w10 _ _ _ := ⟨b1.ext p3, hno _ (by omega)⟩
    have kb2 : Kp own w10 _ _ _ := ⟨b2.ext p3, hno _ (by omega)⟩
    have kb3 : Kp own w10 _ _ _ := ⟨b3.ext p3, hno _ (by omega)⟩
    have kb5 : Kp own w10 _ _ _ := ⟨b5.ext p3, hno _ (by omega)⟩
    have kt : Kp own w10 _ _ _ := ⟨p2, hno _ (by omega)⟩
    have hby10 : ByR w7.heap.size w10 w3.heap.size (l.map (·.1)) bs bk := hby.fr p3 (fun h => h) (fun _ _ h => h)
    have G : ∀ w', Rl own w10 w' → GearAt w' r m2 Nt f c w.heap.size w1.heap.size w2.heap.size w8.heap.size w4.heap.size w3.heap.size bs bk := fun w' R' => by
      have hby' : ByR w7.heap.size w' w3.heap.size (l.map (·.1)) bs bk := hby10.fr R'.fr (hno _ (by omega)) fun b hb => hno b (by omega)
      exact ⟨(kb1.rl R').b, (kb2.rl R').b, (kb3.rl R').b, (kt.rl R').b, (kb5.rl R').b, hro w' (R10.trans R'), hnm w' (R10.trans R'), hby'.look, fun rel => (hby'.own rel).sli⟩
    have hbk : ∀ rel k, k ∈ bk rel ↔ In k ∧ k.rel = rel := fun rel k => by rw [hby.mem, ← hmem k]
    have h127 := c127 (P := P) C G hbk (fun rel => by have := hby.len rel; simp at this; omega) hca Bnd (fun vs v w' R' h1 h2 h3 h4 => hcall vs v w' (R10.trans R') h1 h2 h3 h4) hat hb3 (r.body.length - 0) 0 rfl (Nat.zero_le _) z8 vs w10 (Rl.refl _ _) hI10 hB rfl (fun u h1 h2 => hP u (by simpa using h1) h2)
    refine ⟨127, capT w.heap.size w1.heap.size w2.heap.size w8.heap.size w4.heap.size, p2.cell 0, ?_⟩
    rw [callable127]
    exact h127.mono fun e w11 ⟨he, vs', h1, h0, h2, h3⟩ => ⟨he, rfl, vs', h1, h0, R10.trans h2, fun u => by rw [h3]; rfl⟩
  · refine rangeM0 (P := Try.prog) (fun vis w8 => ∃ bs bk, ByR w7.heap.size w8 w3.heap.size (vis.map (·.1)) bs bk ∧ Fr (fun y => y = w6.heap.size ∨ y = w3.heap.size) w7 w8) hmp7 hit ⟨fun _ => nilS, fun _ => [], ⟨⟨[], 0, m7, fun _ => rfl⟩, fun _ => Own.nil .., (by intro _ _ _ a _ h; cases h), by simp, by simp⟩, Fr.refl _ _⟩ ?_ ?_ ?_
    · rintro vis w8 w9 ⟨bs, bk, hby, f8⟩ hf
      exact ⟨bs, bk, hby.fr hf (by show ¬ (w3.heap.size = w6.heap.size); omega) (fun b hb (e : b = w6.heap.size) => by omega), f8.trans hf fun y _ (e : y = w6.heap.size) => .inl e⟩
    · rintro vis x w13 hxl hxv hvn hvl hvlt ⟨bs, bk, hby, f13⟩ hmp13 hrb hent K hK
      have l13 := f13.size
      have b5 := b5.fr f13 (by omega)
      refine ⟨x.1.rel, x.1.a, x.1.b, x.2.1, hent, ?_⟩
      obtain ⟨q1, q2, q3⟩ := new_eK w13 x.1
      refine Let.intro fun w15 e15 => ?_
      rw [← e15] at q1 q2 q3
      refine ⟨q1, Let.intro fun w16 e16 => ?_⟩
      have e16 : w16 = put w15 w13.heap.size 0 (eK x.1) := e16
      rw [← e16] at q2 q3
      have hby16 : ByR w7.heap.size w16 w3.heap.size (vis.map (·.1)) bs bk := hby.fr q3 (fun h => h) (fun _ _ h => h)
      have b5 := b5.ext q3
      have l16 := q3.size
      generalize hrel : x.1.rel = rel
      have ho := hby16.own rel
      -- the slice's block is none of the others
      have hnb : ∀ {q : Nat} {vs : List Value} {T : TypeId}, Blk w16 q vs T → T ≠ 121 → ¬ BlS (bs rel) q := fun hb hT ⟨a, ha, e⟩ => by
        obtain ⟨cur, hc⟩ := ho.blk ha
        rw [e] at hc
        exact Blk.ne_ty hb hc hT rfl
      have hnq : ¬ BlS (bs rel) w3.heap.size := fun ⟨a, ha, e⟩ => by have := (ho.base ha).1; omega
      have hn13 : ¬ BlS (bs rel) w13.heap.size := fun ⟨a, ha, e⟩ => by have := ((hby.own rel).base ha).2; omega
      refine ⟨fun u => Fr (BlS (bs rel)) w16 u, Fr.mono (Ext.drew _) fun _ _ h => h.elim, Let.intro fun w17 e17 => ?_⟩
      have x17 : Ext w16 w17 := by rw [e17]; exact Ext.drew _
      have hbyu : ∀ u, Fr (BlS (bs rel)) w16 u → (Instr.lookup 191 (.map (some w3.heap.size)) (.int .i64 rel) false).run Try.prog u = .ok (.slice (bs rel).a (bs rel).n (bs rel).c) u := fun u hu => by
        obtain ⟨l', c', hm, hl⟩ := hby16.mp
        have := (look_run K3 u191 (hm.fr hu hnq) zero150 rel).1
        rw [this, ← hl rel]
        cases mget l' rel <;> rfl
      have q2' := q2
      rw [show eK x.1 = [.int .i64 rel, .int .i64 x.1.a, .int .i64 x.1.b] from by rw [← hrel]; rfl] at q2'
      refine ⟨some w3.heap.size, fun u hu => (b5.fr hu (hnb b5 (by decide))).cell 0, rel, fun u hu => (q2'.fr hu hn13).cell 0, some w3.heap.size, fun u hu => (b5.fr hu (hnb b5 (by decide))).cell 0, rel, fun u hu => (q2'.fr hu hn13).cell 0, bs rel, hbyu, rel, x.1.a, x.1.b, fun u hu => (q2'.fr hu hn13).rd, ?_⟩
      have hkeq : x.1 = ⟨rel, x.1.a, x.1.b⟩ := by rw [← hrel]
      have hb := buildOne_run E150 (v := .agg [.int .i64 rel, .int .i64 x.1.a, .int .i64 x.1.b].toArray) (vs := eK x.1) (by rw [hkeq]; rfl) rfl (by omega) w17
      have x18 := Ext.alloc w17 (.cells (eK x.1).toArray 121)
      have hs18 : Sli 3 eK (w17.alloc (.cells (eK x.1).toArray 121)) ⟨some ⟨w17.heap.size, 0, none⟩, 1, 1⟩ [x.1] := ⟨rfl, Nat.le_refl _, fun _ => ⟨⟨w17.heap.size, 0⟩, rfl, by simpa using (Blk.alloc w17 (eK x.1) 121).rd⟩⟩
      have ho18 := (ho.ext x17).ext x18
      have hlen : (bk rel).length ≤ 1000 := by have := hby.len rel; simp at this; omega
      obtain ⟨s27, w19, hr19, ho19, f19⟩ := appendSli E150 ho18 hs18 eK_len eK_one (by simp; omega) (by simp [maxLen]; omega) (by have := x17.size; have := x18.size; omega) 150
      have hwh := append_where E150 ho18 hs18 eK_len eK_one (by simp; omega) (by simp [maxLen]; omega) 150 hr19
      refine ⟨⟨some ⟨w17.heap.size, 0, none⟩, 1, 1⟩, _, hb, (x17.trans x18).mono fun _ _ h => h.elim, s27, w19, hr19, (x17.trans x18).fr f19, ?_⟩
      have f1619 : Fr (BlS (bs rel)) w16 w19 := (x17.trans x18).fr f19
      obtain ⟨l', c', hm, hl⟩ := hby16.mp
      obtain ⟨w20, c20, hr20, hm20, f20⟩ := put_run K3 u191 (hm.fr f1619 hnq) rel s27
      have hQ27 : ∀ a, s27.a = some a → a.block ≠ w3.heap.size := fun a ha e => by have := (ho19.base ha).1; omega
      have l17 := x17.size
      refine ⟨w20, hr20, hK _ ⟨fun rel' => if rel' = rel then s27 else bs rel', fun rel' => if rel' = rel then bk rel ++ [x.1] else bk rel', ⟨⟨_, c20, hm20, fun rel' => ?_⟩, fun rel' => ?_, fun r1 r2 hne a a' ha ha' => ?_, fun rel' k => ?_, fun rel' => ?_⟩, ?_⟩ ?_⟩
      · rw [mget_mput]
        by_cases e : rel' = rel
        · simp [e]
        · simp [e, hl]
      · by_cases e : rel' = rel
        · simp only [e, if_true]
          exact ho19.fr f20 fun a ha (e : a.block = w3.heap.size) => hQ27 a ha e
        · simp only [e, if_false]
          refine ((hby16.own rel').fr f1619 fun a ha ⟨a', ha', e'⟩ => hby16.ap rel' rel e a a' ha ha' e'.symm).fr f20 fun a ha (e' : a.block = w3.heap.size) => ?_
          have := ((hby16.own rel').base ha).1; omega
      · -- the blocks of different Rels
        have hcase : ∀ (r2 : Int), r2 ≠ rel → ∀ a a', s27.a = some a → (bs r2).a = some a' → a.block ≠ a'.block := fun r2 h2 a a' ha ha' e => by
          rcases hwh with h | h
          · exact hby16.ap rel r2 (fun e => h2 e.symm) a a' (h ▸ ha) ha' e
          · have h1 := h a ha
            have h2 := ((hby16.own r2).base ha').2
            simp at h1
            omega
        by_cases e1 : r1 = rel
        · have e2 : r2 ≠ rel := fun e => hne (e1.trans e.symm)
          simp only [e1, if_true] at ha
          simp only [e2, if_false] at ha'
          exact hcase r2 e2 a a' ha ha'
        · simp only [e1, if_false] at ha
          by_cases e2 : r2 = rel
          · simp only [e2, if_true] at ha'
            exact fun e => hcase r1 e1 a' a ha' ha e.symm
          · simp only [e2, if_false] at ha'
            exact hby16.ap r1 r2 hne a a' ha ha'
      · simp only [List.map_append, List.map_cons, List.map_nil, List.mem_append, List.mem_singleton]
        by_cases e : rel' = rel
        · simp only [e, if_true, List.mem_append, List.mem_singleton, hby16.mem]
          constructor
          · rintro (⟨h1, h2⟩ | h)
            · exact ⟨.inl h1, h2⟩
            · exact ⟨.inr h, by rw [h, hrel]⟩
          · rintro ⟨h1 | h1, h2⟩
            · exact .inl ⟨h1, h2⟩
            · exact .inr h1
        · simp only [e, if_false, hby16.mem]
          constructor
          · rintro ⟨h1, h2⟩; exact ⟨.inl h1, h2⟩
          · rintro ⟨h1 | h1, h2⟩
            · exact ⟨h1, h2⟩
            · exact absurd (by rw [← h2, h1, hrel]) e
      · by_cases e : rel' = rel
        · have := hby.len rel
          simp only [e, if_true, List.length_append, List.length_map] at this ⊢
          simp; omega
        · have := hby.len rel'
          simp only [e, if_false, List.length_map] at this ⊢
          simp; omega
      · refine ((f13.ext q3).trans f1619 fun y hy ⟨a, ha, e⟩ => ?_).trans f20 fun y hy (e : y = w3.heap.size) => .inr e
        have := (ho.base ha).1; omega
      · refine Fr.mono (M := fun y => BlS (bs rel) y ∨ y = w3.heap.size) ((q3.fr (f1619.mono fun _ _ h => .inl h)).trans f20 fun y hy (e : y = w3.heap.size) => .inr e) fun y hy h => ?_
        rcases h with ⟨a, ha, e⟩ | e
        · have h1 := (ho.base ha).1
          exact ⟨fun (h : y = w6.heap.size) => by omega, by omega⟩
        · exact ⟨fun (h : y = w6.heap.size) => by omega, by omega⟩
    · rintro vis w8 hall hvn hvl ⟨bs, bk, hby, f8⟩ hmp8
      refine ⟨bs, bk, ⟨hby.mp, hby.own, hby.ap, fun rel k => ?_, fun rel => ?_⟩, f8⟩
      · rw [hby.mem]
        refine and_congr_left fun _ => ?_
        constructor
        · intro h; obtain ⟨x, hx, rfl⟩ := List.mem_map.1 h; exact List.mem_map.2 ⟨x, hvl x hx, rfl⟩
        · intro h; obtain ⟨x, hx, rfl⟩ := List.mem_map.1 h; exact List.mem_map.2 ⟨x, hall x hx, rfl⟩
      · have h1 := hby.len rel
        have h2 := hvn.length_le_of_subset (l₂ := l) hvl
        simp at h1 ⊢; omega
end
end Go.Proofs.Ytoljknamnkkgcaa
