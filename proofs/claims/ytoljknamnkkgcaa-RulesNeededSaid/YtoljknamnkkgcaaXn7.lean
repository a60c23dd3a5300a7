/-
  Texts Dd, Cp, Da, Sc of this proof, joined.
-/
import Derived.Test.YtoljknamnkkgcaaXn6
import Derived.Test.YtoljknamnkkgcaaProg
import Derived.KernelRfl
/-
  Contract: Founded, by the alternating fixpoint.
-/
namespace Go.Proofs.Ytoljknamnkkgcaa
open Go Go.VC
set_option maxHeartbeats 1000000
set_option maxRecDepth 100000

theorem NegOk.anti {N N' : Ky → Prop} (h : ∀ k, N' k → N k) {body : List Li} {u : List Int} (x : NegOk N body u) : NegOk N' body u := fun b hb hn h' => x b hb hn (h _ h')
theorem Cl.anti {l : List Ru} {G N N' : Ky → Prop} (h : ∀ k, N' k → N k) {k : Ky} (hk : Cl l G N k) : Cl l G N' k := fun S hG hS => hk S hG fun r hr u h1 h2 => hS r hr u h1 (h2.anti h)
/-- The true facts of the well-founded model: the least set that two steps leave as it is. -/
structure IsWF (l : List Ru) (G T : Ky → Prop) : Prop where
  fix : ∀ k, T k ↔ Cl l G (Cl l G T) k
  least : ∀ X : Ky → Prop, (∀ k, Cl l G (Cl l G X) k → X k) → ∀ k, T k → X k
theorem IsWF.uniq {l : List Ru} {G T T' : Ky → Prop} (h : IsWF l G T) (h' : IsWF l G T') (k : Ky) : T k ↔ T' k :=
  ⟨h.least T' (fun k hk => (h'.fix k).2 hk) k, h'.least T (fun k hk => (h.fix k).2 hk) k⟩
theorem IsWF.sub {l : List Ru} {G T : Ky → Prop} (h : IsWF l G T) : ∀ k, T k → Cl l G T k := fun k hk => by
  -- the least set is below its own step: by what both steps of Cl T are
  refine h.least (Cl l G T) (fun k hk => ?_) k hk
  exact Cl.anti (fun k hk => (h.fix k).1 hk) hk
theorem Few.sub {S S' : Ky → Prop} (h : Few S) (hs : ∀ k, S' k → S k) : Few S' := by obtain ⟨U, h1, h2⟩ := h; exact ⟨U, h1, fun k hk => h2 k (hs k hk)⟩
theorem SetM.del {κ : Type} [DecidableEq κ] {ke : κ → Value} {P : Program} {t kt vt kt' : TypeId} (K : KeyOk P kt ke) (ht : P.underlying t = some (.map kt vt)) {w : World} {b : Nat} {S : κ → Prop} (m : SetM ke w b S) (k : κ) (ty : Nat) :
    ∃ w', (Builtin.delete_ #[t, kt'] ty #[.map (some b), ke k]).run P w = .ok (.tuple #[]) w' ∧ SetM ke w' b (fun a => S a ∧ a ≠ k) ∧ Fr (fun z => z = b) w w' := by
  obtain ⟨l, c, h1, h2⟩ := m.ex
  obtain ⟨w', hrun, hmp, hf⟩ := del_run K ht h1 k ty
  refine ⟨w', hrun, ⟨_, c, hmp, fun a => ?_⟩, hf⟩
  rw [mget_mdel]
  by_cases e : a = k
  · rw [if_pos e]; exact .inr ⟨rfl, fun h => h.2 e⟩
  · rw [if_neg e]
    rcases h2 a with ⟨p, q⟩ | ⟨p, q⟩
    · exact .inl ⟨p, q, e⟩
    · exact .inr ⟨p, fun h => q h.1⟩
theorem c25 {w : World} {s s' : Sl} {l : List DR} {fs : List DF} (hs : NR w s l) (hf : NF w s' fs) (hl : l.length ≤ 1000000) (hfl : fs.length ≤ 1000000) (hz : ∀ r ∈ l, SzR r) (hzf : ∀ f ∈ fs, f.args.length ≤ 1000) :
    Calls Try.prog 25 [.slice s.a s.n s.c, .slice s'.a s'.n s'.c].toArray w fun e w' => ∃ (s1 s2 : Sl) (x : Int) (A B : List DF), e = .returned (.tuple [.slice s1.a s1.n s1.c, .slice s2.a s2.n s2.c, .int .i64 x].toArray) ∧ NF w' s1 A ∧ NF w' s2 B ∧ A.length ≤ 1000 ∧ B.length ≤ 1000 ∧
      ((¬ ValidP (l.map DR.p) (fs.map DF.p) ∧ x = 2 ∧ A = [] ∧ B = []) ∨
        (ValidP (l.map DR.p) (fs.map DF.p) ∧ x = 0 ∧ ∃ T, IsWF (l.map DR.p) (giv (fs.map DF.p)) T ∧ IsL T (A.map DF.p) ∧ IsL (fun k => Cl (l.map DR.p) (giv (fs.map DF.p)) T k ∧ ¬ T k) (B.map DF.p))) ∧ Ext w w' := by
  refine (call25 s s' (R := fun v w' => ∃ (s1 s2 : Sl) (x : Int) (A B : List DF), v = (.tuple [.slice s1.a s1.n s1.c, .slice s2.a s2.n s2.c, .int .i64 x].toArray) ∧ NF w' s1 A ∧ NF w' s2 B ∧ A.length ≤ 1000 ∧ B.length ≤ 1000 ∧
      ((¬ ValidP (l.map DR.p) (fs.map DF.p) ∧ x = 2 ∧ A = [] ∧ B = []) ∨
        (ValidP (l.map DR.p) (fs.map DF.p) ∧ x = 0 ∧ ∃ T, IsWF (l.map DR.p) (giv (fs.map DF.p)) T ∧ IsL T (A.map DF.p) ∧ IsL (fun k => Cl (l.map DR.p) (giv (fs.map DF.p)) T k ∧ ¬ T k) (B.map DF.p))) ∧ Ext w w') ?_).mono fun e w' ⟨v, he, s1, s2, x, A, B, hv, hx⟩ => ⟨s1, s2, x, A, B, by rw [he, hv], hx⟩
  have hnil : ∀ w, NF w ⟨none, 0, 0⟩ [] := fun w => ⟨Sli.nil _ _, by simp⟩
  refine (c55 hs hf hl hfl hz hzf).mono fun e w1 ⟨b, he, hb, x1⟩ => ⟨b, he, cond_intro (fun g => ?_) (fun g => ?_)⟩
  · have g : b = false := by simpa using g
    exact ⟨⟨none, 0, 0⟩, ⟨none, 0, 0⟩, 2, [], [], rfl, hnil _, hnil _, by simp, by simp, .inl ⟨(fun h => by rw [hb.2 h] at g; cases g), rfl, rfl, rfl⟩, x1⟩
  have g : b = true := by simpa using g
  have hv := hb.1 g
  have hru : ∀ r ∈ l, RuleP r.p := fun r hr => hv.ru _ (List.mem_map.2 ⟨r, hr, rfl⟩)
  have hgr : ∀ f ∈ fs, GroundF f.p := fun f hf => hv.gr _ (List.mem_map.2 ⟨f, hf, rfl⟩)
  have hl10 : l.length ≤ 10 := by have := hv.nl; simpa using this
  refine (c67 (hf.ext x1) (by show fs.length ≤ 9223372036854775807; omega) (fun x hx h => by have := (hgr x hx).2.2.1; simp [DF.p, h] at this)).mono fun e w2 ⟨b2, he, m2, _, x2⟩ => ⟨_, he, ?_⟩
  have x02 := x1.trans x2
  generalize hG : giv (fs.map DF.p) = G at m2 ⊢
  have hGin : ∀ k, G k → InU k := by rw [← hG]; exact giv_in hv.gr
  have hCin : ∀ N : Ky → Prop, ∀ k, Cl (l.map DR.p) G N k → InU k := fun N => Cl_in hGin fun r hr => (hv.ru r hr).2.2 r.head (by simp [Ru.atoms])
  have few : ∀ N : Ky → Prop, Few (Cl (l.map DR.p) G N) := fun N => few_of (hCin N)
  refine Let.intro fun w3 e3 => ?_
  have m3 : FM w3 w2.heap.size fun _ => False := by rw [e3]; exact SetM.made w2
  have x3 : Ext w2 w3 := by rw [e3]; exact Ext.alloc ..
  have x03 := x02.trans x3
  refine Join.dir (LoopV.intro (fun n (m8 : Option Nat) w5 => ∃ (q : Nat) (S : Ky → Prop) (ks : List Ky), m8 = some q ∧ FM w5 q S ∧ (∀ k, S k ↔ k ∈ ks) ∧ ks.Nodup ∧ n = U0.length - ks.length ∧ (∀ k, S k → Cl (l.map DR.p) G (Cl (l.map DR.p) G S) k) ∧
    (∀ X : Ky → Prop, (∀ k, Cl (l.map DR.p) G (Cl (l.map DR.p) G X) k → X k) → ∀ k, S k → X k) ∧ Ext w3 w5)
    (U0.length - 0) ⟨_, fun _ => False, [], rfl, m3, by simp, by simp, rfl, fun k h => h.elim, fun X _ k h => h.elim, Fr.refl _ _⟩ ?_)
  rintro n m8 w5 ⟨q, S, ks, rfl, m5, hks, hkn, rfl, hS2, hSX, x5⟩
  have x05 := x03.trans x5
  refine Join.dir ?_
  refine (c68 (hs.ext x05) ((m2.ext x3).ext x5) (.inr ⟨q, rfl, m5⟩) (by omega) (fun r hr => (hru r hr).ok) (few S)).mono fun e w7 ⟨q22, he, m7, l22, x7⟩ => ⟨_, he, ?_⟩
  have x07 := x05.trans x7
  refine (c68 (hs.ext x07) (((m2.ext x3).ext x5).ext x7) (.inr ⟨q22, rfl, m7⟩) (by omega) (fun r hr => (hru r hr).ok) (few _)).mono fun e w8 ⟨q26, he, m8, l26, x8⟩ => ⟨_, he, ?_⟩
  have x08 := x07.trans x8
  have m22 := m7.ext x8
  have mS := (m5.ext x7).ext x8
  have lt22 : q22 < w7.heap.size := m7.lt
  obtain ⟨l26', c26, hmp26, hnd26, hmem26, _⟩ := m8.list
  obtain ⟨l8', c8, hmp8, hnd8, hmem8, _⟩ := mS.list
  have hlen8 : l8'.length = ks.length := by
    have h1 := hnd8.length_le_of_subset (l₂ := ks) fun k hk => (hks k).1 ((hmem8 k).2 hk)
    have h2 := hkn.length_le_of_subset (l₂ := l8'.map (·.1)) fun k hk => (hmem8 k).1 ((hks k).2 hk)
    simp at h1 h2; omega
  have hle : ks.length ≤ (l26'.map (·.1)).length := hkn.length_le_of_subset fun k hk => (hmem26 k).1 (hS2 k ((hks k).2 hk))
  have hU' : (l26'.map (·.1)).length ≤ U0.length := hnd26.length_le_of_subset fun k hk => mem_U0 (hCin _ k ((hmem26 k).2 hk))
  refine ⟨_, len_run u105 hmp26, _, len_run u105 hmp8, cond_intro (fun g => ?_) (fun g => ?_)⟩
  rotate_left
  · have g : ¬ l26'.length = l8'.length := fun h => by simp [h] at g
    refine ⟨U0.length - (l26'.map (·.1)).length, ?_, q26, _, l26'.map (·.1), rfl, m8, hmem26, hnd26, rfl, fun k hk => ?_, fun X hX k hk => ?_, (x5.trans x7).trans x8⟩
    · simp only [List.length_map] at hle hU' ⊢; omega
    · exact Cl.anti (fun k hk => Cl.anti (fun k hk => hS2 k hk) hk) hk
    · refine hX k ?_
      exact Cl.anti (fun k hk => Cl.anti (hSX X hX) hk) hk
  have g0 : (l26'.length : Int) = l8'.length := by simpa using g
  have g : l26'.length = l8'.length := by omega
  have hback : ∀ k, Cl (l.map DR.p) G (Cl (l.map DR.p) G S) k → S k := fun k hk => by
    refine Classical.byContradiction fun hn => ?_
    have h1 : (k :: ks).Nodup := List.nodup_cons.2 ⟨fun h => hn ((hks k).2 h), hkn⟩
    have := h1.length_le_of_subset (l₂ := l26'.map (·.1)) fun y hy => by
      rcases List.mem_cons.1 hy with rfl | hy
      · exact (hmem26 _).1 hk
      · exact (hmem26 y).1 (hS2 y ((hks y).2 hy))
    simp at this; omega
  have hwf : IsWF (l.map DR.p) G S := ⟨fun k => ⟨hS2 k, hback k⟩, hSX⟩
  have m8 : FM w8 q26 S := m8.congr fun k => ⟨hS2 k, hback k⟩
  obtain ⟨w9, hr9, x9, hit, hmp9⟩ := range_run (P := Try.prog) u105 hmp26
  refine ⟨⟨w8.heap.size, 0⟩, w9, hr9, ?_⟩
  have lt26 : q26 < w8.heap.size := m8.lt
  have l56 := x05.size
  have z7 := x7.size
  have z8 := x8.size
  refine ⟨fun w10 => FM w10 q22 (fun k => Cl (l.map DR.p) G S k ∧ ¬ S k) ∧ FM w10 q26 S ∧ Ext w w10, ?_, ?_⟩
  · rintro w10 ⟨h1, h2, x10⟩
    have fewS : Few S := (few _).sub hS2
    refine (c57 h2 fewS).mono fun e w11 ⟨s41, A, he, hA, hAl, hAn, x11⟩ => ⟨_, he, ?_⟩
    refine (c57 (h1.ext x11) ((few S).sub fun k hk => hk.1)).mono fun e w12 ⟨s43, B, he, hB, hBl, hBn, x12⟩ => ⟨_, he, ?_⟩
    exact ⟨s41, s43, 0, A, B, rfl, hA.ext x12, hB, hAn, hBn, .inr ⟨hv, rfl, S, hwf, hAl, hBl⟩, (x10.trans x11).trans x12⟩
  · refine rangeM0 (P := Try.prog) (fun vis w5 => FM w5 q22 (fun k => Cl (l.map DR.p) G S k ∧ k ∉ vis.map (·.1)) ∧ FM w5 q26 S ∧ Fr (fun y => y = w8.heap.size ∨ y = q22) w9 w5) hmp9 hit ⟨(m22.ext x9).congr fun k => by simp, m8.ext x9, Fr.refl _ _⟩ ?_ ?_ ?_
    · rintro vis w5 w6 ⟨h1, h2, h3⟩ hf
      exact ⟨h1.fr hf (by show ¬ q22 = w8.heap.size; omega), h2.fr hf (by show ¬ q26 = w8.heap.size; omega), h3.trans hf fun y _ (e : y = w8.heap.size) => .inl e⟩
    · rintro vis x w14 hxl hxv hvn hvl hvlt ⟨h1, h2, h3⟩ hmp' hrb hent K hK
      refine ⟨x.1.rel, x.1.a, x.1.b, x.2.1, hent, ?_⟩
      obtain ⟨q1, q2, q3⟩ := new_eK w14 x.1
      refine Let.intro fun w16 e16 => ?_
      rw [← e16] at q1 q2 q3
      refine ⟨q1, Let.intro fun w17 e17 => ?_⟩
      have e17 : w17 = put w16 w14.heap.size 0 (eK x.1) := e17
      rw [← e17] at q2 q3
      obtain ⟨w18, hrun, m18, f18⟩ := SetM.del (kt' := 121) K121 u105 (h1.ext q3) x.1 0
      have z14 := h3.size
      refine ⟨_, _, _, q2.rd, w18, hrun, hK _ ⟨m18.congr fun k => ?_, (h2.ext q3).fr f18 (by show ¬ q26 = q22; omega), (h3.ext q3).trans f18 fun y _ (e : y = q22) => .inr e⟩ ?_⟩
      · rw [List.map_append, List.mem_append]
        simp only [List.map_cons, List.map_nil, List.mem_singleton, not_or]
        exact ⟨fun ⟨a, b, c⟩ => ⟨⟨a, b⟩, c⟩, fun ⟨⟨a, b⟩, c⟩ => ⟨a, b, c⟩⟩
      · exact (q3.fr f18).mono fun y hy (e : y = q22) => ⟨fun (e2 : y = w8.heap.size) => by omega, by omega⟩
    · rintro vis w5 hall hvn hvl ⟨h1, h2, h3⟩ hmp5
      refine ⟨h1.congr fun k => ?_, h2, (x08.trans x9).newer h3 fun y hy => by rcases hy with rfl | rfl <;> omega⟩
      have : S k ↔ k ∈ vis.map (·.1) := by
        rw [show S k ↔ k ∈ l26'.map (·.1) from ⟨fun h => (hmem26 k).1 (hS2 k h), fun h => hback k ((hmem26 k).2 h)⟩]
        constructor
        · intro h; obtain ⟨x, hx, rfl⟩ := List.mem_map.1 h; exact List.mem_map.2 ⟨x, hall x hx, rfl⟩
        · intro h; obtain ⟨x, hx, rfl⟩ := List.mem_map.1 h; exact List.mem_map.2 ⟨x, hvl x hx, rfl⟩
      rw [this]
end Go.Proofs.Ytoljknamnkkgcaa
/-
  Contracts: the rules handed to the program.
-/
namespace Go.Proofs.Ytoljknamnkkgcaa
open Go Go.VC
set_option maxHeartbeats 1000000
set_option maxRecDepth 100000

structure RT (w : World) (r : DR) : Prop where
  hd : TI w r.head.sl r.head.args
  sl : Sli 3 eL w r.bs r.body
  ty : ∀ a, r.bs.a = some a → ∃ cur, Blk w a.block cur 54
  bd : ∀ b ∈ r.body, TI w b.a.sl b.a.args
theorem RT.ok {w : World} {r : DR} (h : RT w r) : RulOk w r := ⟨h.hd.i, h.sl, fun b hb => (h.bd b hb).i⟩
theorem RT.fr {M : Nat → Prop} {w w' : World} {r : DR} (h : RT w r) (f : Fr M w w') (h3 : ∀ q cur, Blk w q cur 3 → ¬ M q) (h54 : ∀ q cur, Blk w q cur 54 → ¬ M q) : RT w' r := by
  have hn : ∀ a, r.bs.a = some a → ¬ M a.block := fun a ha => by obtain ⟨cur, hc⟩ := h.ty a ha; exact h54 _ _ hc
  exact ⟨h.hd.fr f h3, h.sl.fr f hn, fun a ha => by obtain ⟨cur, hc⟩ := h.ty a ha; exact ⟨cur, hc.fr f (hn a ha)⟩, fun b hb => (h.bd b hb).fr f h3⟩
theorem RT.ext {w w' : World} {r : DR} (h : RT w r) (x : Ext w w') : RT w' r := h.fr x (fun _ _ _ h => h) (fun _ _ _ h => h)
def cutL (b : Li) : Li := ⟨b.neg, cut 5 b.a⟩
def ofRu (r : Ru) : Ru := ⟨cut 5 r.head, (r.body.take 5).map cutL⟩
def ofR (l : List Ru) : List Ru := (l.take 12).map ofRu
theorem E50 : Elem Try.prog 50 54 3 40 := Elem.of (by kernel_rfl) (by kernel_rfl) (by decide)
theorem zc94 : (zc Try.prog 94).size = 3 := by kernel_rfl
theorem zc96 : (zc Try.prog 96).size = 3 := by kernel_rfl
theorem loadRT {w : World} {s : Sl} {l : List DR} (hs : NR w s l) {i : Nat} (hi : i < l.length) {T : TypeId} (hz : (zc Try.prog T).size = 3) {B : World → Prop}
    (hB : ∀ w5, Blk w5 w.heap.size (eR l[i]) T → Ext w w5 → B w5) :
    ∃ p : Pt, s.a = some ⟨p.b, p.o, none⟩ ∧ 0 ≤ (i : Int) ∧ (i : Int) < ((s.n : Nat) : Int) ∧ ∃ a : Int, ∃ b : Sl, ∃ c : Sl, rd w p.b (p.o + Int.toNat (i : Int) * 3) [.int .i64 a, .slice b.a b.n b.c, .slice c.a c.n c.c] ∧
      Let (w.alloc (.cells (zc Try.prog T) T)) fun w4 => StoreOk w4 w.heap.size 0 [.int .i64 a, .slice b.a b.n b.c, .slice c.a c.n c.c] 3 ∧ Let (put w4 w.heap.size 0 [.int .i64 a, .slice b.a b.n b.c, .slice c.a c.n c.c]) fun w5 => B w5 := by
  obtain ⟨p, hp, h2, h3, hr⟩ := Sli.at eR_len hs.sl hi
  obtain ⟨a, b, c⟩ := new_var w T (z := zc Try.prog T) (vs := eR l[i]) (by rw [hz, eR_len]) (eR_one _)
  exact ⟨p, hp, h2, h3, _, _, _, hr, a, hB _ b c⟩
theorem loadLT {w : World} {s : Sl} {l : List DL} (hs : NL w s l) {i : Nat} (hi : i < l.length) {T : TypeId} (hz : (zc Try.prog T).size = 3) {B : World → Prop}
    (hB : ∀ w5, Blk w5 w.heap.size (eL l[i]) T → Ext w w5 → B w5) :
    ∃ p : Pt, s.a = some ⟨p.b, p.o, none⟩ ∧ 0 ≤ (i : Int) ∧ (i : Int) < ((s.n : Nat) : Int) ∧ ∃ a : Bool, ∃ b : Int, ∃ c : Sl, rd w p.b (p.o + Int.toNat (i : Int) * 3) [.bool a, .int .i64 b, .slice c.a c.n c.c] ∧
      Let (w.alloc (.cells (zc Try.prog T) T)) fun w4 => StoreOk w4 w.heap.size 0 [.bool a, .int .i64 b, .slice c.a c.n c.c] 3 ∧ Let (put w4 w.heap.size 0 [.bool a, .int .i64 b, .slice c.a c.n c.c]) fun w5 => B w5 := by
  obtain ⟨p, hp, h2, h3, hr⟩ := Sli.at eL_len hs.sl hi
  obtain ⟨a, b, c⟩ := new_var w T (z := zc Try.prog T) (vs := eL l[i]) (by rw [hz, eL_len]) (eL_one _)
  exact ⟨p, hp, h2, h3, _, _, _, hr, a, hB _ b c⟩
theorem c17 {w : World} {s : Sl} {l : List DR} (hs : NR w s l) (hl : l.length ≤ big) (hb : ∀ r ∈ l, r.body.length ≤ big) :
    Calls Try.prog 17 [.slice s.a s.n s.c].toArray w fun e w' => ∃ (s' : Sl) (L : List DR), e = .returned (.slice s'.a s'.n s'.c) ∧ NR w' s' L ∧ L.map DR.p = ofR (l.map DR.p) ∧ Ext w w' := by
  refine (call17 s (R := fun v w' => ∃ (s' : Sl) (L : List DR), v = (.slice s'.a s'.n s'.c) ∧ NR w' s' L ∧ L.map DR.p = ofR (l.map DR.p) ∧ Ext w w') ?_).mono fun e w' ⟨v, he, s', L, hv, hx⟩ => ⟨s', L, by rw [he, hv], hx⟩
  have hn := hs.len
  refine ⟨fun s3 w1 => ∃ L : List DR, Own 52 3 eR w.heap.size w1 s3 L ∧ (∀ r ∈ L, RT w1 r) ∧ L.map DR.p = ofR (l.map DR.p) ∧ Ext w w1, ?_, ?_⟩
  · rintro s3 w1 ⟨L, h1, h2, h3, h4⟩; exact ⟨s3, L, rfl, ⟨h1.sli, fun r hr => (h2 r hr).ok⟩, h3, h4⟩
  refine rangeSI (fun i (s3 : Sl) w1 => ∃ L : List DR, Own 52 3 eR w.heap.size w1 s3 L ∧ (∀ r ∈ L, RT w1 r) ∧ i ≤ 12 ∧ L.map DR.p = (l.take i).map (fun r => ofRu r.p) ∧ Ext w w1) (by rw [hn]; exact hl) ⟨[], Own.nil .., by simp, by omega, by simp, Fr.refl _ _⟩ ?_ ?_
  rotate_left
  · rintro s3 w1 ⟨L, ho, hti, hi12, hLp, x1⟩
    refine ⟨L, ho, hti, ?_, x1⟩
    rw [hLp, hn, List.take_length]
    rw [hn] at hi12
    rw [ofR, List.take_of_length_le (by simp; omega)]; simp
  rintro i hi s3 w2 ⟨L, ho, hrt, hi12, hLp, x2⟩ K hK
  have hi : i < l.length := by omega
  refine loadRT (hs.ext x2) hi zc94 fun w5 b5 x5 => cond_intro (fun g => ?_) (fun g => ?_)
  · have g : i = 12 := by simp at g; omega
    refine ⟨L, ho.ext x5, fun r hr => (hrt r hr).ext x5, ?_, x2.trans x5⟩
    rw [hLp, g]; simp [ofR, List.map_take]; rfl
  have g : i < 12 := by simp at g; omega
  have x25 := x2.trans x5
  have hro := (hs.ok _ (List.getElem_mem hi)).ext x25
  have hro0 := hs.ok _ (List.getElem_mem hi)
  have hbb := hb _ (List.getElem_mem hi)
  have hLl : L.length ≤ 12 := by have := congrArg List.length hLp; simp at this; omega
  have hti : (l.take (i + 1)).map (fun r => ofRu r.p) = (l.take i).map (fun r => ofRu r.p) ++ [ofRu (l[i]).p] := by rw [List.take_succ_eq_append_getElem hi, List.map_append]; rfl
  generalize l[i] = r at b5 hro hro0 hbb hti
  refine ⟨_, _, rdHead b5, (c58 hro.hd).mono fun e w6 ⟨y, he, hyp, hyt, hyb, x6⟩ => ⟨_, _, he, rfl, by decide, ?_⟩⟩
  obtain ⟨n1, n2, n3⟩ := new_var w6 52 (z := zc Try.prog 52) (vs := [.int .i64 y.rel, .slice y.sl.a y.sl.n y.sl.c, .slice none 0 0]) (by rw [zc52]; rfl) (by intro v hv; simp at hv; rcases hv with rfl | rfl | rfl <;> rfl)
  refine Let.intro fun w7 e7 => ?_
  rw [← e7] at n1 n2 n3
  refine ⟨n1, Let.intro fun w8 e8 => ?_⟩
  have e8 : w8 = put w7 w6.heap.size 0 [.int .i64 y.rel, .slice y.sl.a y.sl.n y.sl.c, .slice none 0 0] := e8
  rw [← e8] at n2 n3
  have b5 := (b5.ext x6).ext n3
  have hyt8 := hyt.ext n3
  have x58 := (x5.trans x6).trans n3
  have x28 := x2.trans x58
  refine ⟨r.bs, b5.cell 2, ?_⟩
  have hbn := hro.bd.len
  have lq := n2.lt
  have z28 := x28.size
  have z02 := x2.size
  have z58 := x58.size
  have z6 := x6.size
  have z5 := x5.size
  -- the body
  refine ⟨fun w9 => ∃ (sb : Sl) (B : List DL), Blk w9 w6.heap.size [.int .i64 y.rel, .slice y.sl.a y.sl.n y.sl.c, .slice sb.a sb.n sb.c] 52 ∧ Own 54 3 eL w8.heap.size w9 sb B ∧ (∀ b ∈ B, TI w9 b.a.sl b.a.args) ∧ B.map DL.p = (r.p.body.take 5).map cutL ∧ Fr (fun q => q = w6.heap.size) w8 w9, ?_, ?_⟩
  · rintro w9 ⟨sb, B, b9, hob, hbt, hBp, f9⟩
    refine ⟨_, _, _, b9.rd, ?_⟩
    have hf29 : Ext w2 w9 := x58.newer f9 fun q (hq : q = w6.heap.size) => by omega
    have hyt9 : TI w9 y.sl y.args := hyt8.fr f9 fun q cur hq (e : q = w6.heap.size) => by subst e; exact Blk.ne_ty hq n2 (by decide) rfl
    have hob9 := ho.ext hf29
    let R : DR := ⟨y, sb, B⟩
    have hR9 : RT w9 R := ⟨hyt9, hob.sli, fun a ha => hob.blk ha, hbt⟩
    have hbd := buildOne_run E27 (v := .agg [.int .i64 y.rel, .slice y.sl.a y.sl.n y.sl.c, .slice sb.a sb.n sb.c].toArray) (vs := eR R) rfl rfl (by omega) w9
    have x10 := Ext.alloc w9 (.cells (eR R).toArray 52)
    have hs10 : Sli 3 eR (w9.alloc (.cells (eR R).toArray 52)) ⟨some ⟨w9.heap.size, 0, none⟩, 1, 1⟩ [R] := ⟨rfl, Nat.le_refl _, fun _ => ⟨⟨w9.heap.size, 0⟩, rfl, by simpa using (Blk.alloc w9 (eR R) 52).rd⟩⟩
    obtain ⟨s11, w11, hr11, ho11, hf11⟩ := appendSli E27 (hob9.ext x10) hs10 eR_len eR_one (by simp; omega) (by simp [maxLen]; omega) (by have := x2.size; have := hf29.size; have := x10.size; omega) 27
    refine ⟨⟨some ⟨w9.heap.size, 0, none⟩, 1, 1⟩, _, hbd, s11, w11, hr11, hK _ _ ⟨L ++ [R], ho11, fun r' hr' => ?_, by omega, ?_, ?_⟩⟩
    · have hno : ∀ (T : TypeId), T ≠ 52 → ∀ q cur, Blk (w9.alloc (.cells (eR R).toArray 52)) q cur T → ¬ BlS s3 q := fun T hT q cur hq ⟨a, ha, e⟩ => by
        obtain ⟨cur', hc'⟩ := (hob9.ext x10).blk ha
        rw [e] at hc'
        exact Blk.ne_ty hq hc' hT rfl
      have hr10 : RT (w9.alloc (.cells (eR R).toArray 52)) r' := by
        rcases List.mem_append.1 hr' with hr' | hr'
        · exact ((hrt r' hr').ext hf29).ext x10
        · simp only [List.mem_singleton] at hr'; subst hr'; exact hR9.ext x10
      exact hr10.fr hf11 (hno 3 (by decide)) (hno 54 (by decide))
    · rw [List.map_append, hLp, hti]
      congr 1
      simp only [List.map_cons, List.map_nil]
      congr 1
      show (⟨y.p, B.map DL.p⟩ : Ru) = ofRu r.p
      rw [hBp, hyp]; rfl
    · exact ((x2.trans hf29).trans x10).newer hf11 fun q ⟨a, ha, e⟩ => by have := ((hob9.ext x10).base ha).1; omega
  refine rangeI (fun j w12 => ∃ (sb : Sl) (B : List DL), Blk w12 w6.heap.size [.int .i64 y.rel, .slice y.sl.a y.sl.n y.sl.c, .slice sb.a sb.n sb.c] 52 ∧ Own 54 3 eL w8.heap.size w12 sb B ∧ (∀ b ∈ B, TI w12 b.a.sl b.a.args) ∧ B.map DL.p = ((r.p.body.take j).take 5).map cutL ∧ Fr (fun q => q = w6.heap.size) w8 w12) (by rw [hbn]; exact hbb) ⟨⟨none, 0, 0⟩, [], n2, Own.nil .., by simp, by simp, Fr.refl _ _⟩ ?_ ?_
  rotate_left
  · rintro w12 ⟨sb, B, h1, h2, h3, h4, h5⟩
    have e : r.p.body.take r.bs.n = r.p.body := by rw [hbn]; exact List.take_of_length_le (by simp [DR.p])
    rw [e] at h4
    exact ⟨sb, B, h1, h2, h3, h4, h5⟩
  rintro j hj w12 ⟨sb, B, bq, hob, hbt, hBp, f12⟩ K2 hK2
  have hj : j < r.body.length := by omega
  have x012 : Ext w w12 := x28.newer f12 fun q (hq : q = w6.heap.size) => by omega
  refine loadLT (hro0.ext x012).bd hj zc96 fun w15 b15 x15 => Join.dir ?_
  have hbp : r.p.body[j]'(by simpa [DR.p] using hj) = (r.body[j]).p := by simp [DR.p]
  have htk : r.p.body.take (j + 1) = r.p.body.take j ++ [(r.body[j]).p] := by rw [List.take_succ_eq_append_getElem (by simpa [DR.p] using hj), hbp]
  have hint := ((hro0.bd.ok _ (List.getElem_mem hj)).ext x012).ext x15
  have hlj : (r.p.body.take j).length = j := by simp [DR.p]; omega
  generalize r.body[j] = b at b15 htk hint
  have lw12 : w6.heap.size < w12.heap.size := by have := f12.size; omega
  refine cond_intro (fun g2 => ?_) (fun g2 => ?_)
  rotate_left
  · have g2 : 5 ≤ j := by simp at g2; omega
    refine hK2 _ ⟨sb, B, bq.ext x15, hob.ext x15, fun b' hb' => (hbt b' hb').ext x15, ?_, f12.ext x15⟩
    rw [hBp, htk, List.take_append_of_le_length (by omega)]
  have g2 : j < 5 := by simp at g2; omega
  have bq15 := bq.ext x15
  have hob15 := hob.ext x15
  have hnq : ¬ BlS sb w6.heap.size := fun ⟨a, ha, e⟩ => by have := (hob.base ha).1; omega
  have hnl : ¬ BlS sb w12.heap.size := fun ⟨a, ha, e⟩ => by have := (hob.base ha).2; omega
  refine ⟨fun u => Fr (BlS sb) w15 u, Fr.mono (Ext.drew _) fun _ _ h => h.elim, Let.intro fun w17 e17 => ?_⟩
  have x17 : Ext w15 w17 := by rw [e17]; exact Ext.drew _
  refine ⟨sb, fun u hu => (bq15.fr hu hnq).cell 2, b.neg, fun u hu => (b15.fr hu hnl).cell 0, b.a.rel, b.a.sl, fun u hu => rdAtom (b15.fr hu hnl), ?_⟩
  refine (c58 (hint.ext x17)).mono fun e w18 ⟨z, he, hzp, hzt, hzb, x18⟩ => ⟨_, _, he, (x17.trans x18).mono fun _ _ h => h.elim, rfl, by decide, ?_⟩
  let D : DL := ⟨b.neg, z⟩
  have hbd := buildOne_run E50 (v := .agg [.bool b.neg, .int .i64 z.rel, .slice z.sl.a z.sl.n z.sl.c].toArray) (vs := eL D) rfl rfl (by omega) w18
  have x19 := Ext.alloc w18 (.cells (eL D).toArray 54)
  have hs19 : Sli 3 eL (w18.alloc (.cells (eL D).toArray 54)) ⟨some ⟨w18.heap.size, 0, none⟩, 1, 1⟩ [D] := ⟨rfl, Nat.le_refl _, fun _ => ⟨⟨w18.heap.size, 0⟩, rfl, by simpa using (Blk.alloc w18 (eL D) 54).rd⟩⟩
  have x1519 := (x17.trans x18).trans x19
  have hob19 := hob15.ext x1519
  have hBl : B.length ≤ 5 := by have := congrArg List.length hBp; simp at this; omega
  obtain ⟨s20, w20, hr20, ho20, hf20⟩ := appendSli E50 hob19 hs19 eL_len eL_one (by simp; omega) (by simp [maxLen]; omega) (by have := f12.size; have := x15.size; have := x1519.size; omega) 50
  have hf1520 : Fr (BlS sb) w15 w20 := x1519.fr hf20
  have bq20 := bq15.fr hf1520 hnq
  obtain ⟨p1, p2, p3⟩ := (⟨bq20.storeOk (o := 0 + 2) (vs := [.slice s20.a s20.n s20.c]) rfl (by simp [Value.oneCell']) (by simp), by
      have := bq20.put (o := 0 + 2) (vs := [.slice s20.a s20.n s20.c]); exact this, Fr.put ..⟩ : StoreOk w20 w6.heap.size (0 + 2) [.slice s20.a s20.n s20.c] 1 ∧ Blk (put w20 w6.heap.size (0 + 2) [.slice s20.a s20.n s20.c]) w6.heap.size [.int .i64 y.rel, .slice y.sl.a y.sl.n y.sl.c, .slice s20.a s20.n s20.c] 52 ∧ Fr (fun q => q = w6.heap.size) w20 (put w20 w6.heap.size (0 + 2) [.slice s20.a s20.n s20.c]))
  refine ⟨⟨some ⟨w18.heap.size, 0, none⟩, 1, 1⟩, _, hbd, x1519.mono fun _ _ h => h.elim, s20, w20, hr20, hf1520, p1, Let.intro fun w21 e21 => ?_⟩
  have e21 : w21 = put w20 w6.heap.size (0 + 2) [.slice s20.a s20.n s20.c] := e21
  rw [← e21] at p2 p3
  refine hK2 _ ⟨s20, B ++ [D], p2, ho20.fr p3 fun a ha (e : a.block = w6.heap.size) => by have := (ho20.base ha).1; omega, fun b' hb' => ?_, ?_, ?_⟩
  · have h19 : TI (w18.alloc (.cells (eL D).toArray 54)) b'.a.sl b'.a.args := by
      rcases List.mem_append.1 hb' with hb' | hb'
      · exact ((hbt b' hb').ext x15).ext x1519
      · simp only [List.mem_singleton] at hb'; subst hb'; exact hzt.ext x19
    refine (h19.fr hf20 fun q cur hq ⟨a, ha, e⟩ => ?_).fr p3 fun q cur hq (e : q = w6.heap.size) => ?_
    · obtain ⟨cur', hc'⟩ := hob19.blk ha
      rw [e] at hc'
      exact Blk.ne_ty hq hc' (by decide) rfl
    · subst e; exact Blk.ne_ty hq bq20 (by decide) rfl
  · have t1 : (r.p.body.take j).take 5 = r.p.body.take j := List.take_of_length_le (by omega)
    have t2 : (r.p.body.take j ++ [b.p]).take 5 = r.p.body.take j ++ [b.p] := List.take_of_length_le (by rw [List.length_append]; simp only [List.length_singleton]; omega)
    rw [List.map_append, hBp, htk, t1, t2, List.map_append]
    congr 1
    simp only [List.map_cons, List.map_nil]
    congr 1
    show (⟨b.neg, z.p⟩ : Li) = cutL b.p
    rw [hzp]; rfl
  · exact ((f12.ext x15).trans hf1520 fun q hq ⟨a, ha, e⟩ => by have := (hob15.base ha).1; omega).trans p3 fun _ _ h => h
end Go.Proofs.Ytoljknamnkkgcaa
/-
  The plain law of rules: what values of an instance are; facts keep their shape.
-/
namespace Go.Proofs.Ytoljknamnkkgcaa
open Go Go.VC
set_option maxHeartbeats 400000

theorem getD_set {v : List Int} {i j : Nat} {n : Int} : (v.set i n).getD j 0 = if i = j ∧ j < v.length then n else v.getD j 0 := by
  simp only [List.getD, List.getElem?_set]
  by_cases e : i = j
  · subst e
    by_cases h : i < v.length
    · simp [h]
    · simp [h, List.getElem?_eq_none (show v.length ≤ i by omega)]
  · simp [e]
theorem getD_lt {v : List Int} {j : Nat} (h : v.getD j 0 ≠ 0) : j < v.length := by
  rcases Nat.lt_or_ge j v.length with h1 | h1
  · exact h1
  · exact absurd (by simp [List.getD, List.getElem?_eq_none h1]) h
theorem fitA_keep : ∀ {v l ns v' : List Int}, fitA v l ns = some v' → ∀ y, v.getD y 0 ≠ 0 → v'.getD y 0 = v.getD y 0
  | _, [], _, _, h, y, _ => by simp [fitA] at h; rw [h]
  | _, _ :: _, [], _, h, _, _ => by simp [fitA] at h
  | v, x :: r, n :: ns, v', h, y, hy => by
    rw [fitA] at h
    split at h
    · cases h
    · rename_i hc
      have h1 := fitA_keep h y
      have e : (if 0 ≤ x then v.set x.toNat n else v).getD y 0 = v.getD y 0 := by
        split
        · rw [getD_set]
          split
          · rename_i h0 he
            obtain ⟨e1, e2⟩ := he
            subst e1
            refine Classical.byContradiction fun hne => hc (.inr ⟨h0, hy, fun e => hne e.symm⟩)
          · rfl
        · rfl
      rw [e] at h1
      exact h1 hy
theorem fitA_val : ∀ {v l ns v' : List Int}, v.length = 8 → (∀ x ∈ l, x ≤ 7) → fitA v l ns = some v' → ∀ (i : Nat) (x n : Int), l[i]? = some x → ns[i]? = some n → n ≠ 0 → gV v' x = n
  | _, [], _, _, _, _, _, i, _, _, h, _, _ => by simp at h
  | _, _ :: _, [], _, _, _, h, _, _, _, _, _, _ => by simp [fitA] at h
  | v, y :: r, m :: ns, v', hv, hl, h, i, x, n, hi, hn, h0 => by
    rw [fitA] at h
    split at h
    · cases h
    · rename_i hc
      cases i with
      | zero =>
        simp only [List.getElem?_cons_zero, Option.some.injEq] at hi hn
        subst hi hn
        unfold gV
        by_cases hy : y < 0
        · rw [if_pos hy]
          exact Classical.byContradiction fun hne => hc (.inl ⟨hy, hne⟩)
        · rw [if_neg hy]
          have hy0 : 0 ≤ y := by omega
          rw [if_pos hy0] at h
          have hy7 := hl y (by simp)
          have e : (v.set y.toNat m).getD y.toNat 0 = m := by rw [getD_set, if_pos ⟨rfl, by omega⟩]
          have := fitA_keep h y.toNat (by rw [e]; exact h0)
          rw [this, e]
      | succ i =>
        refine fitA_val (v := if 0 ≤ y then v.set y.toNat m else v) ?_ (fun z hz => hl z (by simp [hz])) h i x n (by simpa using hi) (by simpa using hn) h0
        split <;> simp [hv]
/-- A key of the right shape: as many Args as the others of its Rel. -/
structure TyK (C : List Fa) (k : Ky) : Prop where
  r0 : 0 ≤ k.rel
  r1 : k.rel ≤ 5
  a1 : 1 ≤ k.a ∧ k.a ≤ 6
  b1 : k.b = 0 ∨ (1 ≤ k.b ∧ k.b ≤ 6)
  co : ∀ g ∈ C, g.rel = k.rel → (g.args.length = 1 ∧ k.b = 0) ∨ (g.args.length = 2 ∧ k.b ≠ 0)
theorem TyK.ground {C : List Fa} {k : Ky} (h : TyK C k) : GroundF k.f := by
  refine ⟨h.r0, h.r1, ?_, ?_, ?_⟩
  · simp only [Ky.f]; split <;> simp
  · simp only [Ky.f]; split <;> simp
  · intro x hx
    simp only [Ky.f] at hx
    have ha := h.a1
    split at hx
    · simp only [List.mem_singleton] at hx; subst hx; exact ha
    · simp only [List.mem_cons, List.not_mem_nil, or_false] at hx
      rcases hx with rfl | rfl
      · exact ha
      · rcases h.b1 with h' | h'
        · omega
        · exact h'
theorem TyK.len {C : List Fa} {k : Ky} (h : TyK C k) : ∀ g ∈ C, g.rel = k.rel → g.args.length = k.f.args.length := fun g hg e => by
  rcases h.co g hg e with ⟨h1, h2⟩ | ⟨h1, h2⟩
  · simp [Ky.f, h2, h1]
  · simp [Ky.f, h2, h1]
theorem Ky.fk (k : Ky) : k.f.k = k := by
  cases k with | mk r a b => simp only [Ky.f, Fa.k]; by_cases h : b = 0 <;> simp [h]
theorem GroundF.kf {f : Fa} (h : GroundF f) : f.k.f = f := by
  obtain ⟨h1, h2, h3, h4, h5⟩ := h
  obtain ⟨r, l⟩ := f
  match l, h3, h4, h5 with
  | [a], _, _, _ => simp [Ky.f, Fa.k]
  | [a, b], _, _, h5 =>
    have hb := (h5 b (by simp)).1
    have : b ≠ 0 := by omega
    simp [Ky.f, Fa.k, this]
theorem ty_of {C : List Fa} {f : Fa} (hg : GroundF f) (hc : ∀ g ∈ C, g.rel = f.rel → g.args.length = f.args.length) : TyK C f.k := by
  obtain ⟨h1, h2, h3, h4, h5⟩ := hg
  obtain ⟨r, l⟩ := f
  match l, h3, h4, h5, hc with
  | [a], _, _, h5, hc => exact ⟨h1, h2, h5 a (by simp), .inl rfl, fun g hg e => .inl ⟨by simpa using hc g hg e, rfl⟩⟩
  | [a, b], _, _, h5, hc =>
    have hb := h5 b (by simp)
    exact ⟨h1, h2, h5 a (by simp), .inr hb, fun g hg e => .inr ⟨by simpa using hc g hg e, by show b ≠ 0; omega⟩⟩
/-- An atom under values that fit it to a fact of its shape is that fact. -/
theorem fitK_gnd {C : List Fa} {a : Fa} {g : Ky} {v v' u : List Int} (hv : v.length = 8) (ha : FitsF a) (haC : a ∈ C) (hg : TyK C g) (hf : fitK v a g v') (hu : ∀ y, v'.getD y 0 ≠ 0 → u.getD y 0 = v'.getD y 0) :
    gnd a u = g ∧ ∀ x ∈ a.args, 1 ≤ gV u x ∧ gV u x ≤ 6 := by
  obtain ⟨h1, h2⟩ := hf
  have hl7 : ∀ x ∈ a.args, x ≤ 7 := fun x hx => (ha.2.2.2.2 x hx).2
  have hval := fitA_val hv hl7 h2
  have hu' : ∀ x n : Int, gV v' x = n → n ≠ 0 → gV u x = n := fun x n e h0 => by
    unfold gV at e ⊢
    split at e
    · rw [if_pos (by assumption)]; exact e
    · rw [if_neg (by assumption), hu x.toNat (by rw [e]; exact h0)]; exact e
  have ga := hg.a1
  have hco := hg.co a haC h1
  obtain ⟨r, l⟩ := a
  simp only at h1
  match l, hco, hval with
  | [], hco, _ => simp at hco
  | [x], hco, hval =>
    have e0 := hu' x g.a (hval 0 x g.a rfl rfl (by omega)) (by omega)
    have hb : g.b = 0 := by rcases hco with ⟨_, h⟩ | ⟨h, _⟩; exact h; simp at h
    refine ⟨?_, ?_⟩
    · cases g; simp only at h1 e0 hb; simp [gnd, gA, e0, h1, hb]
    · intro y hy; simp only [List.mem_singleton] at hy; subst hy; rw [e0]; exact ga
  | [x, z], hco, hval =>
    have hb : g.b ≠ 0 := by rcases hco with ⟨h, _⟩ | ⟨_, h⟩; simp at h; exact h
    have gb : 1 ≤ g.b ∧ g.b ≤ 6 := by rcases hg.b1 with h | h; exact absurd h hb; exact h
    have e0 := hu' x g.a (hval 0 x g.a rfl rfl (by omega)) (by omega)
    have e1 := hu' z g.b (hval 1 z g.b rfl rfl hb) hb
    refine ⟨?_, ?_⟩
    · cases g; simp only at h1 e0 e1; simp [gnd, gA, e0, e1, h1]
    · intro y hy
      simp only [List.mem_cons, List.not_mem_nil, or_false] at hy
      rcases hy with rfl | rfl
      · rw [e0]; exact ga
      · rw [e1]; exact gb
  | _ :: _ :: _ :: _, hco, _ => simp at hco
theorem En_sem {C : List Fa} {In : Ky → Prop} (hIn : ∀ k, In k → TyK C k) : ∀ {l : List Li} {v u : List Int}, (∀ b ∈ l, FitsF b.a ∧ b.a ∈ C) → v.length = 8 → En In l v u →
    (∀ y, v.getD y 0 ≠ 0 → u.getD y 0 = v.getD y 0) ∧ ∀ b ∈ l, b.neg = false → In (gnd b.a u) ∧ ∀ x ∈ b.a.args, 1 ≤ gV u x ∧ gV u x ≤ 6
  | [], v, u, _, _, h => ⟨fun y _ => by rw [h], by simp⟩
  | c :: r, v, u, hb, hv, h => by
    have hr : ∀ b ∈ r, FitsF b.a ∧ b.a ∈ C := fun b h' => hb b (by simp [h'])
    rw [En] at h
    split at h
    · rename_i hneg
      obtain ⟨h1, h2⟩ := En_sem hIn hr hv h
      refine ⟨h1, fun b hbm hn => ?_⟩
      rcases List.mem_cons.1 hbm with rfl | hbm
      · rw [hneg] at hn; cases hn
      · exact h2 b hbm hn
    · obtain ⟨g, v', g1, g2, g3⟩ := h
      obtain ⟨h1, h2⟩ := En_sem hIn hr (by rw [fitA_len g2.2, hv]) g3
      have hc := hb c (by simp)
      obtain ⟨e1, e2⟩ := fitK_gnd hv hc.1 hc.2 (hIn g g1) g2 h1
      refine ⟨fun y hy => ?_, fun b hbm hn => ?_⟩
      · have := fitA_keep g2.2 y hy
        rw [h1 y (by rw [this]; exact hy), this]
      · rcases List.mem_cons.1 hbm with rfl | hbm
        · rw [e1]; exact ⟨g1, e2⟩
        · exact h2 b hbm hn
/-- The Head of an instance has the right shape. -/
theorem head_ty {C : List Fa} {In : Ky → Prop} (hIn : ∀ k, In k → TyK C k) (hC : Consist C) {r : Ru} (hr : RuleP r) (hrC : ∀ a ∈ r.atoms, a ∈ C) {u : List Int} (h : En In r.body z8 u) : TyK C (gnd r.head u) := by
  have hbd : ∀ b ∈ r.body, FitsF b.a ∧ b.a ∈ C := fun b hb => by
    have : b.a ∈ r.atoms := by simp [Ru.atoms]; exact .inr ⟨b, hb, rfl⟩
    exact ⟨hr.2.2 _ this, hrC _ this⟩
  obtain ⟨_, h2⟩ := En_sem hIn hbd rfl h
  have hh : r.head ∈ r.atoms := by simp [Ru.atoms]
  have hf := hr.2.2 _ hh
  have hval : ∀ x ∈ r.head.args, 1 ≤ gV u x ∧ gV u x ≤ 6 := fun x hx => by
    have hx6 := hf.2.2.2.2 x hx
    by_cases h0 : 0 ≤ x
    · obtain ⟨b, hb, hn, hxb⟩ := hr.2.1 _ hh x hx h0
      exact (h2 b hb hn).2 x hxb
    · unfold gV; rw [if_pos (by omega)]; omega
  have hcc := fun g hg e => hC g hg _ (hrC _ hh) e
  obtain ⟨f1, f2, f3, f4, _⟩ := hf
  revert hval hcc
  generalize r.head = hd at f1 f2 f3 f4
  obtain ⟨q, l⟩ := hd
  intro hval hcc
  match l, f3, f4, hval, hcc with
  | [x], _, _, hval, hcc => exact ⟨f1, f2, by simpa [gnd, gA] using hval x (by simp), .inl rfl, fun g hg e => .inl ⟨by simpa using hcc g hg e, rfl⟩⟩
  | [x, z], _, _, hval, hcc =>
    have hz := hval z (by simp)
    exact ⟨f1, f2, by simpa [gnd, gA] using hval x (by simp), .inr (by simpa [gnd, gA] using hz), fun g hg e => .inr ⟨by simpa using hcc g hg e, by show gA u [x, z] 1 ≠ 0; simp [gA]; omega⟩⟩
theorem Cl_ty {C : List Fa} {l : List Ru} {G N : Ky → Prop} (hC : Consist C) (hG : ∀ k, G k → TyK C k) (hl : ∀ r ∈ l, RuleP r ∧ ∀ a ∈ r.atoms, a ∈ C) : ∀ k, Cl l G N k → TyK C k := fun k h =>
  h (TyK C) hG fun r hr u h1 _ => head_ty (fun _ h => h) hC (hl r hr).1 (hl r hr).2 h1
theorem Lay_ty {C : List Fa} {l : List Ru} {s : List Int} {G : Ky → Prop} (hC : Consist C) (hG : ∀ k, G k → TyK C k) (hl : ∀ r ∈ l, RuleP r ∧ ∀ a ∈ r.atoms, a ∈ C) : ∀ n k, Lay l s G n k → TyK C k
  | 0 => hG
  | n + 1 => Cl_ty hC (Lay_ty hC hG hl n) fun r hr => hl r (List.mem_filter.1 hr).1
/-- All atoms that are there. -/
def allA (l : List Ru) (fs : List Fa) : List Fa := fs ++ l.flatMap Ru.atoms
theorem ValidP.ty {l : List Ru} {fs : List Fa} (h : ValidP l fs) : (∀ k, giv fs k → TyK (allA l fs) k) ∧ ∀ r ∈ l, RuleP r ∧ ∀ a ∈ r.atoms, a ∈ allA l fs := by
  refine ⟨?_, fun r hr => ⟨h.ru r hr, fun a ha => List.mem_append_right _ (List.mem_flatMap.2 ⟨r, hr, ha⟩)⟩⟩
  rintro k ⟨f, hf, rfl⟩
  exact ty_of (h.gr f hf) fun g hg e => h.co g hg f (List.mem_append_left _ hf) e
/-! ### rules without Not -/
def PlainP (l : List Ru) : Prop := ∀ r ∈ l, ∀ b ∈ r.body, b.neg = false
theorem plain_str {l : List Ru} (h : PlainP l) : IsStr l zero6 := by
  have hz : ∀ r, lv zero6 r = 0 := fun r => by
    unfold lv zero6
    rcases hn : r.toNat with _ | _ | _ | _ | _ | _ | n <;> simp
  refine ⟨rfl, by simp [zero6], fun r hr b hb => ?_, fun f hf x _ _ => by rw [hz]; exact hf.1 x⟩
  rw [hz, hz]
  simp [nI, h r hr b hb]
theorem lv_zero6 (r : Int) : lv zero6 r = 0 := by
  unfold lv zero6
  rcases hn : r.toNat with _ | _ | _ | _ | _ | _ | n <;> simp
theorem plain_neg {l : List Ru} (h : PlainP l) {r : Ru} (hr : r ∈ l) (N : Ky → Prop) (u : List Int) : NegOk N r.body u := fun b hb hn => by rw [h r hr b hb] at hn; cases hn
theorem Closed.plain {l : List Ru} (h : PlainP l) {N N' S : Ky → Prop} (hc : Closed l N S) : Closed l N' S := fun r hr u h1 _ => hc r hr u h1 (plain_neg h hr N u)
theorem Cl.plain {l : List Ru} (h : PlainP l) {G N N' : Ky → Prop} {k : Ky} : Cl l G N k → Cl l G N' k := fun hk S h1 h2 => hk S h1 (h2.plain h)
/-- The model of rules without Not: the closure. -/
theorem Mdl_plain {l : List Ru} (h : PlainP l) (N G : Ky → Prop) (k : Ky) : Mdl l zero6 G k ↔ Cl l G N k := by
  have h1 := Lay_top (l := l) (s := zero6) (G := G) (m := 1) (fun r _ => by rw [lv_zero6]; omega) 5 k
  have h2 : Lay l zero6 G 1 k ↔ Cl l G G k := by
    show Cl (l.filter fun r => decide (lv zero6 r.head.rel = ((0 : Nat) : Int))) G G k ↔ _
    have : (l.filter fun r => decide (lv zero6 r.head.rel = ((0 : Nat) : Int))) = l := List.filter_eq_self.2 fun r _ => by simp [lv_zero6]
    rw [this]
  exact h1.trans (h2.trans ⟨Cl.plain h, Cl.plain h⟩)
end Go.Proofs.Ytoljknamnkkgcaa
/-
  Printed by a program of this session (wip/tools/vcprint.py): of each Go function the shallow form, and that the calculus comes to it, by the kernel.
-/
namespace Go.Proofs.Ytoljknamnkkgcaa
open Go Go.VC
set_option maxRecDepth 100000

/-- F94: cubeb/cubebref03.code -/
def An94 : An := (.sq .lf (.sq (.sq .lf (.cd (.sq .lf .lf) .lf)) (.sq (.dr [0, 1, 2, 3, 4, 5, 6, 7, 8, 9, 10, 11, 12] [] false none) .lf)))
def S94 (x0 : Int) (s1 : Sl) (R : Value → World → Prop) (w : World) : Prop :=
  cond (((s1.n : Nat) : Int) == (1 : Int)) (
  ∃ p11 : Pt, s1.a = some ⟨p11.b, p11.o, none⟩ ∧ 0 ≤ (0 : Int) ∧ (0 : Int) < ((s1.n : Nat) : Int) ∧ ∃ x12 : Int, World.cell? w ⟨p11.b, (p11.o + Int.toNat (0 : Int) * 1), none⟩ = some (.int .i64 x12) ∧ R (.int .i64 (IntKind.wrap .i64 ((IntKind.wrap .i64 ((IntKind.wrap .i64 (x0 * (42 : Int))) + x12)) - (1 : Int)))) w) (
  Let w.drew fun w1 =>
  ∃ p18 : Pt, s1.a = some ⟨p18.b, p18.o, none⟩ ∧ 0 ≤ (0 : Int) ∧ (0 : Int) < ((s1.n : Nat) : Int) ∧ ∃ x19 : Int, World.cell? w1 ⟨p18.b, (p18.o + Int.toNat (0 : Int) * 1), none⟩ = some (.int .i64 x19) ∧ ∃ p23 : Pt, s1.a = some ⟨p23.b, p23.o, none⟩ ∧ 0 ≤ (1 : Int) ∧ (1 : Int) < ((s1.n : Nat) : Int) ∧ ∃ x24 : Int, World.cell? w1 ⟨p23.b, (p23.o + Int.toNat (1 : Int) * 1), none⟩ = some (.int .i64 x24) ∧ R (.int .i64 (IntKind.wrap .i64 ((IntKind.wrap .i64 ((IntKind.wrap .i64 ((IntKind.wrap .i64 (x0 * (42 : Int))) + (IntKind.wrap .i64 (x19 * (6 : Int))))) + x24)) - (1 : Int)))) w1)
theorem eq94 (x0 : Int) (s1 : Sl) (R : Value → World → Prop) (w : World) : funV Try.prog Try.f94 An94 [(.int .i64 x0), (.slice s1.a s1.n s1.c)] R w = S94 x0 s1 R w := by kernel_rfl
theorem call94 (x0 : Int) (s1 : Sl) {R : Value → World → Prop} {w : World} (h : S94 x0 s1 R w) : Calls Try.prog 94 [(.int .i64 x0), (.slice s1.a s1.n s1.c)].toArray w fun e w' => ∃ v, e = .returned v ∧ R v w' :=
  funV_calls mixed Try.func94 (an := An94) (by rw [eq94]; exact h)

/-- F72: cubeb/cubebref02.Key -/
def An72 : An := (.sq .lf (.sq .lf .lf))
def S72 (x0_0 : Int) (s0_1 : Sl) (R : Value → World → Prop) (w : World) : Prop :=
  Let (w.alloc (.cells [(.int .i64 x0_0), (.slice s0_1.a s0_1.n s0_1.c)].toArray 36)) fun w1 => 
  ∃ x4 : Int, World.cell? w1 ⟨w.heap.size, (0 + 0), none⟩ = some (.int .i64 x4) ∧ ∃ (s5 : Sl) (w2 : World), Sem.run Try.prog (Instr.buildSlice 34 1 [(0, (.int .i64 x4))].toArray) w1 = .ok (.slice s5.a s5.n s5.c) w2 ∧
  ∃ s7 : Sl, World.cell? w2 ⟨w.heap.size, (0 + 1), none⟩ = some (.slice s7.a s7.n s7.c) ∧ ∃ (s8 : Sl) (w3 : World), Sem.run Try.prog (Builtin.append_ #[34, 34] 34 #[(.slice s5.a s5.n s5.c), (.slice s7.a s7.n s7.c)]) w2 = .ok (.slice s8.a s8.n s8.c) w3 ∧
  R (.slice s8.a s8.n s8.c) w3
theorem eq72 (x0_0 : Int) (s0_1 : Sl) (R : Value → World → Prop) (w : World) : funV Try.prog Try.f72 An72 [(.agg [(.int .i64 x0_0), (.slice s0_1.a s0_1.n s0_1.c)].toArray)] R w = S72 x0_0 s0_1 R w := by kernel_rfl
theorem call72 (x0_0 : Int) (s0_1 : Sl) {R : Value → World → Prop} {w : World} (h : S72 x0_0 s0_1 R w) : Calls Try.prog 72 [(.agg [(.int .i64 x0_0), (.slice s0_1.a s0_1.n s0_1.c)].toArray)].toArray w fun e w' => ∃ v, e = .returned v ∧ R v w' :=
  funV_calls mixed Try.func72 (an := An72) (by rw [eq72]; exact h)

/-- F116: cubeb/cubebref02.Before -/
def An116 : An := (.sq .lf (.sq (.sq .lf (.bk [] (.lp [(9, .int .i64)] (.sq .lf (.sq (.cd .lf .lf) (.sq (.bk [] (.sq .lf (.sq (.sq (.rj [] [(25, .bool)]) (.cd (.sq .lf .lf) .lf)) (.sq .lf (.cd (.sq .lf .lf) .lf))))) .lf)))))) (.sq .lf .lf)))
def S116 (s0 : Sl) (s1 : Sl) (R : Value → World → Prop) (w : World) : Prop :=
  Join [] (fun (w1 : World) => R (.bool (decide (((s0.n : Nat) : Int) < ((s1.n : Nat) : Int)))) w1) (fun J =>
  LoopV [(9, .int .i64)] (fun K => K (0 : Int) w) (fun N => fun (x9 : Int) (w2 : World) =>
  cond (decide (x9 < ((s0.n : Nat) : Int))) (
  Join [] (fun (w3 : World) => N (IntKind.wrap .i64 (x9 + (1 : Int))) w3) (fun J_2 =>
  ∃ p12 : Pt, s0.a = some ⟨p12.b, p12.o, none⟩ ∧ 0 ≤ x9 ∧ x9 < ((s0.n : Nat) : Int) ∧ ∃ x13 : Int, World.cell? w2 ⟨p12.b, (p12.o + Int.toNat x9 * 1), none⟩ = some (.int .i64 x13) ∧ Join [(25, .bool)] (fun (b25 : Bool) (w4 : World) => cond b25 (
  R (.bool false) w4) (
  ∃ p29 : Pt, s1.a = some ⟨p29.b, p29.o, none⟩ ∧ 0 ≤ x9 ∧ x9 < ((s1.n : Nat) : Int) ∧ ∃ x30 : Int, World.cell? w4 ⟨p29.b, (p29.o + Int.toNat x9 * 1), none⟩ = some (.int .i64 x30) ∧ cond (decide (x13 < x30)) (
  R (.bool true) w4) (
  J_2 w4))) (fun J_3 =>
  cond (decide (x9 ≥ ((s1.n : Nat) : Int))) (J_3 true w2) (∃ p22 : Pt, s1.a = some ⟨p22.b, p22.o, none⟩ ∧ 0 ≤ x9 ∧ x9 < ((s1.n : Nat) : Int) ∧ ∃ x23 : Int, World.cell? w2 ⟨p22.b, (p22.o + Int.toNat x9 * 1), none⟩ = some (.int .i64 x23) ∧ J_3 (decide (x13 > x23)) w2)))) (
  J w2)))
theorem eq116 (s0 : Sl) (s1 : Sl) (R : Value → World → Prop) (w : World) : funV Try.prog Try.f116 An116 [(.slice s0.a s0.n s0.c), (.slice s1.a s1.n s1.c)] R w = S116 s0 s1 R w := by kernel_rfl
theorem call116 (s0 : Sl) (s1 : Sl) {R : Value → World → Prop} {w : World} (h : S116 s0 s1 R w) : Calls Try.prog 116 [(.slice s0.a s0.n s0.c), (.slice s1.a s1.n s1.c)].toArray w fun e w' => ∃ v, e = .returned v ∧ R v w' :=
  funV_calls mixed Try.func116 (an := An116) (by rw [eq116]; exact h)

/-- F117: cubeb/cubebref02.Equal -/
def An117 : An := (.sq .lf (.sq (.rj [] [(4, .bool)]) .lf))
def S117 (s0 : Sl) (s1 : Sl) (R : Value → World → Prop) (w : World) : Prop :=
  Join [(4, .bool)] (fun (b4 : Bool) (w1 : World) => R (.bool b4) w1) (fun J =>
  Calls Try.prog 116 [(.slice s0.a s0.n s0.c), (.slice s1.a s1.n s1.c)].toArray w (fun e w2 => ∃ b7 : Bool, e = .returned (.bool b7) ∧
  cond (!b7) (Calls Try.prog 116 [(.slice s1.a s1.n s1.c), (.slice s0.a s0.n s0.c)].toArray w2 (fun e_2 w3 => ∃ b12 : Bool, e_2 = .returned (.bool b12) ∧
  J (!b12) w3)) (J false w2)))
theorem eq117 (s0 : Sl) (s1 : Sl) (R : Value → World → Prop) (w : World) : funV Try.prog Try.f117 An117 [(.slice s0.a s0.n s0.c), (.slice s1.a s1.n s1.c)] R w = S117 s0 s1 R w := by kernel_rfl
theorem call117 (s0 : Sl) (s1 : Sl) {R : Value → World → Prop} {w : World} (h : S117 s0 s1 R w) : Calls Try.prog 117 [(.slice s0.a s0.n s0.c), (.slice s1.a s1.n s1.c)].toArray w fun e w' => ∃ v, e = .returned v ∧ R v w' :=
  funV_calls mixed Try.func117 (an := An117) (by rw [eq117]; exact h)

/-- F71: cubeb/cubebref02.Put -/
def An71 : An := (.sq .lf (.sq .lf (.sq (.bk [(5, .int .i64)] (.lp [(5, .int .i64), (6, .int .i64)] (.sq (.sq .lf (.cd .lf .lf)) (.bk [(5, .int .i64), (6, .int .i64)] (.sq .lf (.sq .lf (.cj [(5, .int .i64), (6, .int .i64)] .lf .lf))))))) (.sq (.sq (.rj [] [(37, .bool)]) (.cd (.sq .lf .lf) .lf)) (.sq (.dt (.go [1, 2, 3, 5, 8, 9, 10] (.fk 0 (.go [] (.fk 4 (.go [6, 7, 11, 12] .nil) 6 (.go [4, 7, 11, 12] .nil))) 6 (.go [0, 4, 7, 11, 12] .nil))) [0, 4, 6, 7, 11] [(4, .slice)]) .lf)))))
def S71 (s0 : Sl) (s1 : Sl) (R : Value → World → Prop) (w : World) : Prop :=
  Join [(5, .int .i64)] (fun (x5 : Int) (w1 : World) => Join [(37, .bool)] (fun (b37 : Bool) (w2 : World) => cond b37 (
  R (.slice s0.a s0.n s0.c) w2) (
  Join [(4, .slice)] (fun (s4 : Sl) (w4 : World) => R (.slice s4.a s4.n s4.c) w4) (fun J =>
  ∃ S1 : World → Prop, S1 w2.drew ∧ Let w2.drew fun w3 =>
  0 ≤ x5 ∧ x5 ≤ ((s0.c : Nat) : Int) ∧ 0 ≤ x5 ∧ x5 ≤ ((s0.n : Nat) : Int) ∧ (∃ (s39 : Sl) (w5 : World), Sem.run Try.prog (Instr.buildSlice 124 0 [].toArray) w3 = .ok (.slice s39.a s39.n s39.c) w5 ∧
  (∃ (s43 : Sl) (w6 : World), Sem.run Try.prog (Builtin.append_ #[124, 124] 124 #[(.slice s39.a s39.n s39.c), (.slice s0.a (Int.toNat x5) s0.c)]) w5 = .ok (.slice s43.a s43.n s43.c) w6 ∧
  ∃ (s45 : Sl) (w7 : World), Sem.run Try.prog (Instr.buildSlice 124 1 [(0, (.slice s1.a s1.n s1.c))].toArray) w6 = .ok (.slice s45.a s45.n s45.c) w7 ∧
  ∃ (s46 : Sl) (w8 : World), Sem.run Try.prog (Builtin.append_ #[124, 124] 124 #[(.slice s43.a s43.n s43.c), (.slice s45.a s45.n s45.c)]) w7 = .ok (.slice s46.a s46.n s46.c) w8 ∧
  ∃ (s50 : Sl) (w9 : World), Sem.run Try.prog (Builtin.append_ #[124, 124] 124 #[(.slice s46.a s46.n s46.c), (.slice (subA s0.a s0.c (Int.toNat x5) 1) (s0.n - (Int.toNat x5)) (s0.c - (Int.toNat x5)))]) w8 = .ok (.slice s50.a s50.n s50.c) w9 ∧
  J ⟨s50.a, s50.n, s50.c⟩ w9) ∧
  (∃ (s45_2 : Sl) (w10 : World), Sem.run Try.prog (Instr.buildSlice 124 1 [(0, (.slice s1.a s1.n s1.c))].toArray) w5 = .ok (.slice s45_2.a s45_2.n s45_2.c) w10 ∧
  ∃ (s43_2 : Sl) (w11 : World), Sem.run Try.prog (Builtin.append_ #[124, 124] 124 #[(.slice s39.a s39.n s39.c), (.slice s0.a (Int.toNat x5) s0.c)]) w10 = .ok (.slice s43_2.a s43_2.n s43_2.c) w11 ∧
  ∃ (s46_2 : Sl) (w12 : World), Sem.run Try.prog (Builtin.append_ #[124, 124] 124 #[(.slice s43_2.a s43_2.n s43_2.c), (.slice s45_2.a s45_2.n s45_2.c)]) w11 = .ok (.slice s46_2.a s46_2.n s46_2.c) w12 ∧
  ∃ (s50_2 : Sl) (w13 : World), Sem.run Try.prog (Builtin.append_ #[124, 124] 124 #[(.slice s46_2.a s46_2.n s46_2.c), (.slice (subA s0.a s0.c (Int.toNat x5) 1) (s0.n - (Int.toNat x5)) (s0.c - (Int.toNat x5)))]) w12 = .ok (.slice s50_2.a s50_2.n s50_2.c) w13 ∧
  J ⟨s50_2.a, s50_2.n, s50_2.c⟩ w13)) ∧
  (∃ (s45_3 : Sl) (w14 : World), Sem.run Try.prog (Instr.buildSlice 124 1 [(0, (.slice s1.a s1.n s1.c))].toArray) w3 = .ok (.slice s45_3.a s45_3.n s45_3.c) w14 ∧
  ∃ (s39_2 : Sl) (w15 : World), Sem.run Try.prog (Instr.buildSlice 124 0 [].toArray) w14 = .ok (.slice s39_2.a s39_2.n s39_2.c) w15 ∧
  ∃ (s43_3 : Sl) (w16 : World), Sem.run Try.prog (Builtin.append_ #[124, 124] 124 #[(.slice s39_2.a s39_2.n s39_2.c), (.slice s0.a (Int.toNat x5) s0.c)]) w15 = .ok (.slice s43_3.a s43_3.n s43_3.c) w16 ∧
  ∃ (s46_3 : Sl) (w17 : World), Sem.run Try.prog (Builtin.append_ #[124, 124] 124 #[(.slice s43_3.a s43_3.n s43_3.c), (.slice s45_3.a s45_3.n s45_3.c)]) w16 = .ok (.slice s46_3.a s46_3.n s46_3.c) w17 ∧
  ∃ (s50_3 : Sl) (w18 : World), Sem.run Try.prog (Builtin.append_ #[124, 124] 124 #[(.slice s46_3.a s46_3.n s46_3.c), (.slice (subA s0.a s0.c (Int.toNat x5) 1) (s0.n - (Int.toNat x5)) (s0.c - (Int.toNat x5)))]) w17 = .ok (.slice s50_3.a s50_3.n s50_3.c) w18 ∧
  J ⟨s50_3.a, s50_3.n, s50_3.c⟩ w18)))) (fun J_2 =>
  cond (decide (x5 < ((s0.n : Nat) : Int))) (∃ p33 : Pt, s0.a = some ⟨p33.b, p33.o, none⟩ ∧ 0 ≤ x5 ∧ x5 < ((s0.n : Nat) : Int) ∧ ∃ s34 : Sl, World.cell? w1 ⟨p33.b, (p33.o + Int.toNat x5 * 1), none⟩ = some (.slice s34.a s34.n s34.c) ∧ Calls Try.prog 117 [(.slice s34.a s34.n s34.c), (.slice s1.a s1.n s1.c)].toArray w1 (fun e w19 => ∃ b36 : Bool, e = .returned (.bool b36) ∧
  J_2 b36 w19)) (J_2 false w1))) (fun J_3 =>
  LoopV [(5, .int .i64), (6, .int .i64)] (fun K => K (0 : Int) ((s0.n : Nat) : Int) w) (fun N => fun (x5_2 : Int) (x6 : Int) (w20 : World) =>
  cond (decide (x5_2 < x6)) (
  Join [(5, .int .i64), (6, .int .i64)] (fun (x5_3 : Int) (x6_2 : Int) (w21 : World) => N x5_3 x6_2 w21) (fun J_4 =>
  (2 : Int) ≠ 0 ∧ ∃ p19 : Pt, s0.a = some ⟨p19.b, p19.o, none⟩ ∧ 0 ≤ (IntKind.wrap .i64 (Int.tdiv (IntKind.wrap .i64 (x5_2 + x6)) (2 : Int))) ∧ (IntKind.wrap .i64 (Int.tdiv (IntKind.wrap .i64 (x5_2 + x6)) (2 : Int))) < ((s0.n : Nat) : Int) ∧ ∃ s20 : Sl, World.cell? w20 ⟨p19.b, (p19.o + Int.toNat (IntKind.wrap .i64 (Int.tdiv (IntKind.wrap .i64 (x5_2 + x6)) (2 : Int))) * 1), none⟩ = some (.slice s20.a s20.n s20.c) ∧ Calls Try.prog 116 [(.slice s20.a s20.n s20.c), (.slice s1.a s1.n s1.c)].toArray w20 (fun e_2 w22 => ∃ b22 : Bool, e_2 = .returned (.bool b22) ∧
  Join [(5, .int .i64), (6, .int .i64)] (fun (x5_4 : Int) (x6_3 : Int) (w23 : World) => J_4 x5_4 x6_3 w23) (fun J_5 =>
  cond b22 (
  J_5 (IntKind.wrap .i64 ((IntKind.wrap .i64 (Int.tdiv (IntKind.wrap .i64 (x5_2 + x6)) (2 : Int))) + (1 : Int))) x6 w22) (
  J_5 x5_2 (IntKind.wrap .i64 (Int.tdiv (IntKind.wrap .i64 (x5_2 + x6)) (2 : Int))) w22))))) (
  J_3 x5_2 w20)))
theorem eq71 (s0 : Sl) (s1 : Sl) (R : Value → World → Prop) (w : World) : funV Try.prog Try.f71 An71 [(.slice s0.a s0.n s0.c), (.slice s1.a s1.n s1.c)] R w = S71 s0 s1 R w := by kernel_rfl
theorem call71 (s0 : Sl) (s1 : Sl) {R : Value → World → Prop} {w : World} (h : S71 s0 s1 R w) : Calls Try.prog 71 [(.slice s0.a s0.n s0.c), (.slice s1.a s1.n s1.c)].toArray w fun e w' => ∃ v, e = .returned v ∧ R v w' :=
  funV_calls mixed Try.func71 (an := An71) (by rw [eq71]; exact h)

/-- F73: cubeb/cubebref03.Fact -/
def An73 : An := (.sq .lf (.sq (.sq .lf (.sq .lf (.cd (.sq .lf .lf) .lf))) (.sq .lf .lf)))
def S73 (x0 : Int) (R : Value → World → Prop) (w : World) : Prop :=
  Let (w.alloc (.cells (zc Try.prog 36) 36)) fun w1 => 
  (42 : Int) ≠ 0 ∧ cond (decide ((Int.tmod x0 (42 : Int)) ≥ (6 : Int))) (
  (42 : Int) ≠ 0 ∧ (6 : Int) ≠ 0 ∧ (6 : Int) ≠ 0 ∧ ∃ (s15 : Sl) (w2 : World), Sem.run Try.prog (Instr.buildSlice 34 2 [(0, (.int .i64 (IntKind.wrap .i64 (Int.tdiv (Int.tmod x0 (42 : Int)) (6 : Int))))), (1, (.int .i64 (IntKind.wrap .i64 ((Int.tmod (Int.tmod x0 (42 : Int)) (6 : Int)) + (1 : Int)))))].toArray) w1 = .ok (.slice s15.a s15.n s15.c) w2 ∧
  StoreOk w2 w.heap.size 0 [(.int .i64 (IntKind.wrap .i64 (Int.tdiv x0 (42 : Int)))), (.slice s15.a s15.n s15.c)] 2 ∧ Let (put w2 w.heap.size 0 [(.int .i64 (IntKind.wrap .i64 (Int.tdiv x0 (42 : Int)))), (.slice s15.a s15.n s15.c)]) fun w3 => 
  ∃ xr2_0 : Int, ∃ sr2_1 : Sl, rd w3 w.heap.size 0 [(.int .i64 xr2_0), (.slice sr2_1.a sr2_1.n sr2_1.c)] ∧ R (.agg [(.int .i64 xr2_0), (.slice sr2_1.a sr2_1.n sr2_1.c)].toArray) w3) (
  (42 : Int) ≠ 0 ∧ (42 : Int) ≠ 0 ∧ ∃ (s22 : Sl) (w4 : World), Sem.run Try.prog (Instr.buildSlice 34 1 [(0, (.int .i64 (IntKind.wrap .i64 ((Int.tmod x0 (42 : Int)) + (1 : Int)))))].toArray) w1 = .ok (.slice s22.a s22.n s22.c) w4 ∧
  StoreOk w4 w.heap.size 0 [(.int .i64 (IntKind.wrap .i64 (Int.tdiv x0 (42 : Int)))), (.slice s22.a s22.n s22.c)] 2 ∧ Let (put w4 w.heap.size 0 [(.int .i64 (IntKind.wrap .i64 (Int.tdiv x0 (42 : Int)))), (.slice s22.a s22.n s22.c)]) fun w5 => 
  ∃ xr2_0_2 : Int, ∃ sr2_1_2 : Sl, rd w5 w.heap.size 0 [(.int .i64 xr2_0_2), (.slice sr2_1_2.a sr2_1_2.n sr2_1_2.c)] ∧ R (.agg [(.int .i64 xr2_0_2), (.slice sr2_1_2.a sr2_1_2.n sr2_1_2.c)].toArray) w5)
theorem eq73 (x0 : Int) (R : Value → World → Prop) (w : World) : funV Try.prog Try.f73 An73 [(.int .i64 x0)] R w = S73 x0 R w := by kernel_rfl
theorem call73 (x0 : Int) {R : Value → World → Prop} {w : World} (h : S73 x0 R w) : Calls Try.prog 73 [(.int .i64 x0)].toArray w fun e w' => ∃ v, e = .returned v ∧ R v w' :=
  funV_calls mixed Try.func73 (an := An73) (by rw [eq73]; exact h)

/-- F27: cubeb/cubebref03.List -/
def An27 : An := (.sq .lf (.sq .lf (.sq (.sq .lf (.bk [(3, .slice)] (.lp [(3, .slice), (10, .int .i64)] (.sq .lf (.sq (.cd .lf .lf) (.sq (.bk [(3, .slice)] (.sq .lf (.sq .lf (.cj [(3, .slice)] .lf .lf)))) .lf)))))) (.sq .lf (.sq (.sq .lf (.bk [(6, .slice)] (.lp [(6, .slice), (23, .int .i64)] (.sq .lf (.sq (.cd .lf .lf) (.sq (.bk [(6, .slice)] (.sq .lf (.dr [0, 1, 2, 3, 4, 5, 6, 7, 8, 9] [] true none))) .lf)))))) (.sq .lf .lf))))))
def S27 (cs0 : List Value) (R : Value → World → Prop) (w : World) : Prop :=
  Let (w.alloc (.cells cs0.toArray 43)) fun w1 => 
  ∃ cs9 : List Value, cs9.length = 252 ∧ rd w1 w.heap.size 0 cs9 ∧ Join [(3, .slice)] (fun (s3 : Sl) (w2 : World) => Join [(6, .slice)] (fun (s6 : Sl) (w3 : World) => R (.slice s6.a s6.n s6.c) w3) (fun J =>
  LoopV [(6, .slice), (23, .int .i64)] (fun K => K ⟨none, 0, 0⟩ (0 : Int) w2) (fun N => fun (s6_2 : Sl) (x23 : Int) (w4 : World) =>
  cond (decide (x23 < ((s3.n : Nat) : Int))) (
  Join [(6, .slice)] (fun (s6_3 : Sl) (w5 : World) => N ⟨s6_3.a, s6_3.n, s6_3.c⟩ (IntKind.wrap .i64 (x23 + (1 : Int))) w5) (fun J_2 =>
  ∃ p25 : Pt, s3.a = some ⟨p25.b, p25.o, none⟩ ∧ 0 ≤ x23 ∧ x23 < ((s3.n : Nat) : Int) ∧ ∃ s26 : Sl, World.cell? w4 ⟨p25.b, (p25.o + Int.toNat x23 * 1), none⟩ = some (.slice s26.a s26.n s26.c) ∧ ∃ S1 : World → Prop, S1 w4.drew ∧ Let w4.drew fun w6 =>
  ∃ p29 : Pt, s26.a = some ⟨p29.b, p29.o, none⟩ ∧ 0 ≤ (0 : Int) ∧ (0 : Int) < ((s26.n : Nat) : Int) ∧ ∃ x30 : Int, (∀ u, S1 u → World.cell? u ⟨p29.b, (p29.o + Int.toNat (0 : Int) * 1), none⟩ = some (.int .i64 x30)) ∧ 0 ≤ (1 : Int) ∧ (1 : Int) ≤ ((s26.n : Nat) : Int) ∧ ∃ (s34 : Sl) (w7 : World), Sem.run Try.prog (Instr.buildSlice 23 1 [(0, (.agg [(.int .i64 x30), (.slice (subA s26.a s26.c (Int.toNat (1 : Int)) 1) (s26.n - (Int.toNat (1 : Int))) (s26.c - (Int.toNat (1 : Int))))].toArray))].toArray) w6 = .ok (.slice s34.a s34.n s34.c) w7 ∧
  S1 w7 ∧ ∃ (s35 : Sl) (w8 : World), Sem.run Try.prog (Builtin.append_ #[23, 23] 23 #[(.slice s6_2.a s6_2.n s6_2.c), (.slice s34.a s34.n s34.c)]) w7 = .ok (.slice s35.a s35.n s35.c) w8 ∧
  S1 w8 ∧ J_2 ⟨s35.a, s35.n, s35.c⟩ w8)) (
  J ⟨s6_2.a, s6_2.n, s6_2.c⟩ w4)))) (fun J_3 =>
  LoopV [(3, .slice), (10, .int .i64)] (fun K => K ⟨none, 0, 0⟩ (0 : Int) w1) (fun N_2 => fun (s3_2 : Sl) (x10 : Int) (w9 : World) =>
  cond (decide (x10 < (252 : Int))) (
  Join [(3, .slice)] (fun (s3_3 : Sl) (w10 : World) => N_2 ⟨s3_3.a, s3_3.n, s3_3.c⟩ (IntKind.wrap .i64 (x10 + (1 : Int))) w10) (fun J_4 =>
  0 ≤ x10 ∧ x10 < ((252 : Nat) : Int) ∧ ∃ b13 : Bool, (cs9 : List Value)[Int.toNat x10]? = some (.bool b13) ∧ Join [(3, .slice)] (fun (s3_4 : Sl) (w11 : World) => J_4 ⟨s3_4.a, s3_4.n, s3_4.c⟩ w11) (fun J_5 =>
  cond b13 (
  Calls Try.prog 73 [(.int .i64 x10)].toArray w9 (fun e w12 => ∃ x17_0 : Int, ∃ s17_1 : Sl, e = .returned (.agg [(.int .i64 x17_0), (.slice s17_1.a s17_1.n s17_1.c)].toArray) ∧
  Calls Try.prog 72 [(.agg [(.int .i64 x17_0), (.slice s17_1.a s17_1.n s17_1.c)].toArray)].toArray w12 (fun e_2 w13 => ∃ s18 : Sl, e_2 = .returned (.slice s18.a s18.n s18.c) ∧
  Calls Try.prog 71 [(.slice s3_2.a s3_2.n s3_2.c), (.slice s18.a s18.n s18.c)].toArray w13 (fun e_3 w14 => ∃ s19 : Sl, e_3 = .returned (.slice s19.a s19.n s19.c) ∧
  J_5 ⟨s19.a, s19.n, s19.c⟩ w14)))) (
  J_5 ⟨s3_2.a, s3_2.n, s3_2.c⟩ w9)))) (
  J_3 ⟨s3_2.a, s3_2.n, s3_2.c⟩ w9)))
theorem eq27 (cs0 : List Value) (R : Value → World → Prop) (w : World) : funV Try.prog Try.f27 An27 [(.agg cs0.toArray)] R w = S27 cs0 R w := by kernel_rfl
theorem call27 (cs0 : List Value) {R : Value → World → Prop} {w : World} (h : S27 cs0 R w) : Calls Try.prog 27 [(.agg cs0.toArray)].toArray w fun e w' => ∃ v, e = .returned v ∧ R v w' :=
  funV_calls mixed Try.func27 (an := An27) (by rw [eq27]; exact h)

/-- F31: cubeb/cubebref03.Ground -/
def An31 : An := (.sq .lf (.sq (.sq .lf (.bk [] (.lp [(8, .int .i64)] (.sq .lf (.sq (.cd .lf .lf) (.sq (.bk [] (.sq .lf (.sq (.rj [] [(17, .bool)]) (.cd (.sq .lf .lf) .lf)))) .lf)))))) (.sq (.rj [] [(2, .bool)]) .lf)))
def S31 (x0_0 : Int) (s0_1 : Sl) (R : Value → World → Prop) (w : World) : Prop :=
  Let (w.alloc (.cells [(.int .i64 x0_0), (.slice s0_1.a s0_1.n s0_1.c)].toArray 36)) fun w1 => 
  ∃ s6 : Sl, World.cell? w1 ⟨w.heap.size, (0 + 1), none⟩ = some (.slice s6.a s6.n s6.c) ∧ Join [] (fun (w2 : World) => Join [(2, .bool)] (fun (b2 : Bool) (w3 : World) => R (.bool b2) w3) (fun J =>
  ∃ x20 : Int, World.cell? w2 ⟨w.heap.size, (0 + 0), none⟩ = some (.int .i64 x20) ∧ cond (decide (x20 ≥ (0 : Int))) (∃ x24 : Int, World.cell? w2 ⟨w.heap.size, (0 + 0), none⟩ = some (.int .i64 x24) ∧ cond (decide (x24 ≤ (5 : Int))) (∃ s29 : Sl, World.cell? w2 ⟨w.heap.size, (0 + 1), none⟩ = some (.slice s29.a s29.n s29.c) ∧ cond (decide (((s29.n : Nat) : Int) ≥ (1 : Int))) (∃ s35 : Sl, World.cell? w2 ⟨w.heap.size, (0 + 1), none⟩ = some (.slice s35.a s35.n s35.c) ∧ J (decide (((s35.n : Nat) : Int) ≤ (2 : Int))) w2) (J false w2)) (J false w2)) (J false w2))) (fun J_2 =>
  LoopV [(8, .int .i64)] (fun K => K (0 : Int) w1) (fun N => fun (x8 : Int) (w4 : World) =>
  cond (decide (x8 < ((s6.n : Nat) : Int))) (
  Join [] (fun (w5 : World) => N (IntKind.wrap .i64 (x8 + (1 : Int))) w5) (fun J_3 =>
  ∃ p10 : Pt, s6.a = some ⟨p10.b, p10.o, none⟩ ∧ 0 ≤ x8 ∧ x8 < ((s6.n : Nat) : Int) ∧ ∃ x11 : Int, World.cell? w4 ⟨p10.b, (p10.o + Int.toNat x8 * 1), none⟩ = some (.int .i64 x11) ∧ Join [(17, .bool)] (fun (b17 : Bool) (w6 : World) => cond b17 (
  R (.bool false) w6) (
  J_3 w6)) (fun J_4 =>
  cond (decide (x11 < (1 : Int))) (J_4 true w4) (J_4 (decide (x11 > (6 : Int))) w4)))) (
  J_2 w4)))
theorem eq31 (x0_0 : Int) (s0_1 : Sl) (R : Value → World → Prop) (w : World) : funV Try.prog Try.f31 An31 [(.agg [(.int .i64 x0_0), (.slice s0_1.a s0_1.n s0_1.c)].toArray)] R w = S31 x0_0 s0_1 R w := by kernel_rfl
theorem call31 (x0_0 : Int) (s0_1 : Sl) {R : Value → World → Prop} {w : World} (h : S31 x0_0 s0_1 R w) : Calls Try.prog 31 [(.agg [(.int .i64 x0_0), (.slice s0_1.a s0_1.n s0_1.c)].toArray)].toArray w fun e w' => ∃ v, e = .returned v ∧ R v w' :=
  funV_calls mixed Try.func31 (an := An31) (by rw [eq31]; exact h)

/-- F62: cubeb/cubebref03.fits -/
def An62 : An := (.sq .lf (.sq (.sq .lf (.bk [] (.lp [(8, .int .i64)] (.sq .lf (.sq (.cd .lf .lf) (.sq (.bk [] (.sq .lf (.sq (.rj [] [(17, .bool)]) (.cd (.sq .lf .lf) .lf)))) .lf)))))) (.sq (.rj [] [(2, .bool)]) .lf)))
def S62 (x0_0 : Int) (s0_1 : Sl) (R : Value → World → Prop) (w : World) : Prop :=
  Let (w.alloc (.cells [(.int .i64 x0_0), (.slice s0_1.a s0_1.n s0_1.c)].toArray 91)) fun w1 => 
  ∃ s6 : Sl, World.cell? w1 ⟨w.heap.size, (0 + 1), none⟩ = some (.slice s6.a s6.n s6.c) ∧ Join [] (fun (w2 : World) => Join [(2, .bool)] (fun (b2 : Bool) (w3 : World) => R (.bool b2) w3) (fun J =>
  ∃ x20 : Int, World.cell? w2 ⟨w.heap.size, (0 + 0), none⟩ = some (.int .i64 x20) ∧ cond (decide (x20 ≥ (0 : Int))) (∃ x24 : Int, World.cell? w2 ⟨w.heap.size, (0 + 0), none⟩ = some (.int .i64 x24) ∧ cond (decide (x24 ≤ (5 : Int))) (∃ s29 : Sl, World.cell? w2 ⟨w.heap.size, (0 + 1), none⟩ = some (.slice s29.a s29.n s29.c) ∧ cond (decide (((s29.n : Nat) : Int) ≥ (1 : Int))) (∃ s35 : Sl, World.cell? w2 ⟨w.heap.size, (0 + 1), none⟩ = some (.slice s35.a s35.n s35.c) ∧ J (decide (((s35.n : Nat) : Int) ≤ (2 : Int))) w2) (J false w2)) (J false w2)) (J false w2))) (fun J_2 =>
  LoopV [(8, .int .i64)] (fun K => K (0 : Int) w1) (fun N => fun (x8 : Int) (w4 : World) =>
  cond (decide (x8 < ((s6.n : Nat) : Int))) (
  Join [] (fun (w5 : World) => N (IntKind.wrap .i64 (x8 + (1 : Int))) w5) (fun J_3 =>
  ∃ p10 : Pt, s6.a = some ⟨p10.b, p10.o, none⟩ ∧ 0 ≤ x8 ∧ x8 < ((s6.n : Nat) : Int) ∧ ∃ x11 : Int, World.cell? w4 ⟨p10.b, (p10.o + Int.toNat x8 * 1), none⟩ = some (.int .i64 x11) ∧ Join [(17, .bool)] (fun (b17 : Bool) (w6 : World) => cond b17 (
  R (.bool false) w6) (
  J_3 w6)) (fun J_4 =>
  cond (decide (x11 < (-6 : Int))) (J_4 true w4) (J_4 (decide (x11 > (7 : Int))) w4)))) (
  J_2 w4)))
theorem eq62 (x0_0 : Int) (s0_1 : Sl) (R : Value → World → Prop) (w : World) : funV Try.prog Try.f62 An62 [(.agg [(.int .i64 x0_0), (.slice s0_1.a s0_1.n s0_1.c)].toArray)] R w = S62 x0_0 s0_1 R w := by kernel_rfl
theorem call62 (x0_0 : Int) (s0_1 : Sl) {R : Value → World → Prop} {w : World} (h : S62 x0_0 s0_1 R w) : Calls Try.prog 62 [(.agg [(.int .i64 x0_0), (.slice s0_1.a s0_1.n s0_1.c)].toArray)].toArray w fun e w' => ∃ v, e = .returned v ∧ R v w' :=
  funV_calls mixed Try.func62 (an := An62) (by rw [eq62]; exact h)

/-- F63: cubeb/cubebref02.Vars -/
def An63 : An := (.sq .lf (.sq .lf (.sq (.sq .lf (.bk [(3, .int .i64)] (.lp [(3, .int .i64), (9, .int .i64)] (.sq .lf (.sq (.cd .lf .lf) (.sq (.bk [(3, .int .i64)] (.sq .lf (.sq .lf (.cj [(3, .int .i64)] .lf .lf)))) .lf)))))) (.sq .lf .lf))))
def S63 (x0_0 : Int) (s0_1 : Sl) (R : Value → World → Prop) (w : World) : Prop :=
  Let (w.alloc (.cells [(.int .i64 x0_0), (.slice s0_1.a s0_1.n s0_1.c)].toArray 91)) fun w1 => 
  ∃ s7 : Sl, World.cell? w1 ⟨w.heap.size, (0 + 1), none⟩ = some (.slice s7.a s7.n s7.c) ∧ Join [(3, .int .i64)] (fun (x3 : Int) (w2 : World) => R (.int .i64 x3) w2) (fun J =>
  LoopV [(3, .int .i64), (9, .int .i64)] (fun K => K (0 : Int) (0 : Int) w1) (fun N => fun (x3_2 : Int) (x9 : Int) (w3 : World) =>
  cond (decide (x9 < ((s7.n : Nat) : Int))) (
  Join [(3, .int .i64)] (fun (x3_3 : Int) (w4 : World) => N x3_3 (IntKind.wrap .i64 (x9 + (1 : Int))) w4) (fun J_2 =>
  ∃ p11 : Pt, s7.a = some ⟨p11.b, p11.o, none⟩ ∧ 0 ≤ x9 ∧ x9 < ((s7.n : Nat) : Int) ∧ ∃ x12 : Int, World.cell? w3 ⟨p11.b, (p11.o + Int.toNat x9 * 1), none⟩ = some (.int .i64 x12) ∧ Join [(3, .int .i64)] (fun (x3_4 : Int) (w5 : World) => J_2 x3_4 w5) (fun J_3 =>
  cond (decide (x12 ≥ (0 : Int))) (
  0 ≤ x12 ∧ J_3 (bitsI .or .i64 x3_2 (IntKind.wrap .i64 ((1 : Int) * 2 ^ (min (Int.toNat x12) (IntKind.bits .i64))))) w3) (
  J_3 x3_2 w3)))) (
  J x3_2 w3)))
theorem eq63 (x0_0 : Int) (s0_1 : Sl) (R : Value → World → Prop) (w : World) : funV Try.prog Try.f63 An63 [(.agg [(.int .i64 x0_0), (.slice s0_1.a s0_1.n s0_1.c)].toArray)] R w = S63 x0_0 s0_1 R w := by kernel_rfl
theorem call63 (x0_0 : Int) (s0_1 : Sl) {R : Value → World → Prop} {w : World} (h : S63 x0_0 s0_1 R w) : Calls Try.prog 63 [(.agg [(.int .i64 x0_0), (.slice s0_1.a s0_1.n s0_1.c)].toArray)].toArray w fun e w' => ∃ v, e = .returned v ∧ R v w' :=
  funV_calls mixed Try.func63 (an := An63) (by rw [eq63]; exact h)

/-- F22: cubeb/cubebref03.Valid -/
def An22 : An := (.sq .lf (.sq (.sq (.rj [] [(25, .bool)]) (.cd (.sq .lf .lf) .lf)) (.sq .lf (.sq (.sq .lf (.bk [(5, .slice)] (.lp [(5, .slice), (28, .int .i64)] (.sq .lf (.sq (.cd .lf .lf) (.sq (.bk [(5, .slice)] (.sq .lf (.sq (.sq .lf (.cd (.sq .lf .lf) .lf)) .lf))) .lf)))))) (.sq (.sq .lf (.bk [(5, .slice)] (.lp [(5, .slice), (47, .int .i64)] (.sq .lf (.sq (.cd .lf .lf) (.sq (.bk [(5, .slice)] (.sq .lf (.sq (.sq (.rj [] [(60, .bool)]) (.cd (.sq .lf .lf) .lf)) (.sq .lf (.sq .lf (.sq (.sq .lf (.bk [(5, .slice), (10, .int .i64), (11, .int .i64)] (.lp [(5, .slice), (10, .int .i64), (11, .int .i64), (78, .int .i64)] (.sq .lf (.sq (.cd .lf .lf) (.sq (.bk [(5, .slice), (10, .int .i64), (11, .int .i64)] (.sq .lf (.sq (.sq .lf (.cd (.sq .lf .lf) .lf)) (.sq .lf (.sq .lf (.sq .lf (.cj [(11, .int .i64)] .lf .lf))))))) .lf)))))) (.sq .lf (.cd (.sq .lf .lf) .lf)))))))) .lf)))))) (.sq (.sq .lf (.bk [] (.lp [(117, .int .i64)] (.sq .lf (.sq (.cd .lf .lf) (.sq (.bk [] (.sq .lf (.sq .lf (.bk [] (.lp [(123, .int .i64)] (.sq .lf (.sq (.cd .lf .lf) (.sq (.bk [] (.sq .lf (.sq (.rj [] [(138, .bool)]) (.cd (.sq .lf .lf) .lf)))) .lf)))))))) .lf)))))) (.sq .lf .lf)))))))
def S22 (s0 : Sl) (s1 : Sl) (R : Value → World → Prop) (w : World) : Prop :=
  Join [(25, .bool)] (fun (b25 : Bool) (w1 : World) => cond b25 (
  R (.bool false) w1) (
  Join [(5, .slice)] (fun (s5 : Sl) (w2 : World) => Join [(5, .slice)] (fun (s5_2 : Sl) (w3 : World) => Join [] (fun (w4 : World) => R (.bool true) w4) (fun J =>
  LoopV [(117, .int .i64)] (fun K => K (0 : Int) w3) (fun N => fun (x117 : Int) (w5 : World) =>
  cond (decide (x117 < ((s5_2.n : Nat) : Int))) (
  Join [] (fun (w6 : World) => N (IntKind.wrap .i64 (x117 + (1 : Int))) w6) (fun J_2 =>
  ∃ p119 : Pt, s5_2.a = some ⟨p119.b, p119.o, none⟩ ∧ 0 ≤ x117 ∧ x117 < ((s5_2.n : Nat) : Int) ∧ ∃ x120_0 : Int, ∃ x120_1 : Int, rd w5 p119.b (p119.o + Int.toNat x117 * 2) [(.int .i64 x120_0), (.int .i64 x120_1)] ∧ Let (w5.alloc (.cells (zc Try.prog 114) 114)) fun w7 => 
  StoreOk w7 w5.heap.size 0 [(.int .i64 x120_0), (.int .i64 x120_1)] 2 ∧ Let (put w7 w5.heap.size 0 [(.int .i64 x120_0), (.int .i64 x120_1)]) fun w8 => 
  Join [] (fun (w9 : World) => J_2 w9) (fun J_3 =>
  LoopV [(123, .int .i64)] (fun K => K (0 : Int) w8) (fun N_2 => fun (x123 : Int) (w10 : World) =>
  cond (decide (x123 < ((s5_2.n : Nat) : Int))) (
  Join [] (fun (w11 : World) => N_2 (IntKind.wrap .i64 (x123 + (1 : Int))) w11) (fun J_4 =>
  ∃ p125 : Pt, s5_2.a = some ⟨p125.b, p125.o, none⟩ ∧ 0 ≤ x123 ∧ x123 < ((s5_2.n : Nat) : Int) ∧ ∃ x126_0 : Int, ∃ x126_1 : Int, rd w10 p125.b (p125.o + Int.toNat x123 * 2) [(.int .i64 x126_0), (.int .i64 x126_1)] ∧ Let (w10.alloc (.cells (zc Try.prog 114) 114)) fun w12 => 
  StoreOk w12 w10.heap.size 0 [(.int .i64 x126_0), (.int .i64 x126_1)] 2 ∧ Let (put w12 w10.heap.size 0 [(.int .i64 x126_0), (.int .i64 x126_1)]) fun w13 => 
  Join [(138, .bool)] (fun (b138 : Bool) (w14 : World) => cond b138 (
  R (.bool false) w14) (
  J_4 w14)) (fun J_5 =>
  0 ≤ (0 : Int) ∧ (0 : Int) < ((2 : Nat) : Int) ∧ ∃ x128 : Int, World.cell? w13 ⟨w5.heap.size, (0 + Int.toNat (0 : Int) * 1), none⟩ = some (.int .i64 x128) ∧ 0 ≤ (0 : Int) ∧ (0 : Int) < ((2 : Nat) : Int) ∧ ∃ x130 : Int, World.cell? w13 ⟨w10.heap.size, (0 + Int.toNat (0 : Int) * 1), none⟩ = some (.int .i64 x130) ∧ cond (x128 == x130) (0 ≤ (1 : Int) ∧ (1 : Int) < ((2 : Nat) : Int) ∧ ∃ x134 : Int, World.cell? w13 ⟨w5.heap.size, (0 + Int.toNat (1 : Int) * 1), none⟩ = some (.int .i64 x134) ∧ 0 ≤ (1 : Int) ∧ (1 : Int) < ((2 : Nat) : Int) ∧ ∃ x136 : Int, World.cell? w13 ⟨w10.heap.size, (0 + Int.toNat (1 : Int) * 1), none⟩ = some (.int .i64 x136) ∧ J_5 (x134 != x136) w13) (J_5 false w13)))) (
  J_3 w10))))) (
  J w5)))) (fun J_6 =>
  LoopV [(5, .slice), (47, .int .i64)] (fun K => K ⟨s5.a, s5.n, s5.c⟩ (0 : Int) w2) (fun N_3 => fun (s5_3 : Sl) (x47 : Int) (w15 : World) =>
  cond (decide (x47 < ((s0.n : Nat) : Int))) (
  Join [(5, .slice)] (fun (s5_4 : Sl) (w16 : World) => N_3 ⟨s5_4.a, s5_4.n, s5_4.c⟩ (IntKind.wrap .i64 (x47 + (1 : Int))) w16) (fun J_7 =>
  ∃ p49 : Pt, s0.a = some ⟨p49.b, p49.o, none⟩ ∧ 0 ≤ x47 ∧ x47 < ((s0.n : Nat) : Int) ∧ ∃ x50_0 : Int, ∃ s50_1 : Sl, ∃ s50_2 : Sl, rd w15 p49.b (p49.o + Int.toNat x47 * 3) [(.int .i64 x50_0), (.slice s50_1.a s50_1.n s50_1.c), (.slice s50_2.a s50_2.n s50_2.c)] ∧ Let (w15.alloc (.cells (zc Try.prog 94) 94)) fun w17 => 
  StoreOk w17 w15.heap.size 0 [(.int .i64 x50_0), (.slice s50_1.a s50_1.n s50_1.c), (.slice s50_2.a s50_2.n s50_2.c)] 3 ∧ Let (put w17 w15.heap.size 0 [(.int .i64 x50_0), (.slice s50_1.a s50_1.n s50_1.c), (.slice s50_2.a s50_2.n s50_2.c)]) fun w18 => 
  Join [(60, .bool)] (fun (b60 : Bool) (w19 : World) => cond b60 (
  R (.bool false) w19) (
  ∃ x64 : Int, World.cell? w19 ⟨w15.heap.size, ((0 + 0) + 0), none⟩ = some (.int .i64 x64) ∧ ∃ s67 : Sl, World.cell? w19 ⟨w15.heap.size, ((0 + 0) + 1), none⟩ = some (.slice s67.a s67.n s67.c) ∧ ∃ (s70 : Sl) (w20 : World), Sem.run Try.prog (Instr.buildSlice 113 1 [(0, (.agg [(.int .i64 x64), (.int .i64 ((s67.n : Nat) : Int))].toArray))].toArray) w19 = .ok (.slice s70.a s70.n s70.c) w20 ∧
  ∃ (s71 : Sl) (w21 : World), Sem.run Try.prog (Builtin.append_ #[113, 113] 113 #[(.slice s5_3.a s5_3.n s5_3.c), (.slice s70.a s70.n s70.c)]) w20 = .ok (.slice s71.a s71.n s71.c) w21 ∧
  ∃ x73_0 : Int, ∃ s73_1 : Sl, rd w21 w15.heap.size (0 + 0) [(.int .i64 x73_0), (.slice s73_1.a s73_1.n s73_1.c)] ∧ Calls Try.prog 63 [(.agg [(.int .i64 x73_0), (.slice s73_1.a s73_1.n s73_1.c)].toArray)].toArray w21 (fun e w22 => ∃ x74 : Int, e = .returned (.int .i64 x74) ∧
  ∃ s76 : Sl, World.cell? w22 ⟨w15.heap.size, (0 + 2), none⟩ = some (.slice s76.a s76.n s76.c) ∧ Join [(5, .slice), (10, .int .i64), (11, .int .i64)] (fun (s5_5 : Sl) (x10 : Int) (x11 : Int) (w23 : World) => cond (x10 != x11) (
  R (.bool false) w23) (
  J_7 ⟨s5_5.a, s5_5.n, s5_5.c⟩ w23)) (fun J_8 =>
  LoopV [(5, .slice), (10, .int .i64), (11, .int .i64), (78, .int .i64)] (fun K => K ⟨s71.a, s71.n, s71.c⟩ x74 (0 : Int) (0 : Int) w22) (fun N_4 => fun (s5_6 : Sl) (x10_2 : Int) (x11_2 : Int) (x78 : Int) (w24 : World) =>
  cond (decide (x78 < ((s76.n : Nat) : Int))) (
  Join [(5, .slice), (10, .int .i64), (11, .int .i64)] (fun (s5_7 : Sl) (x10_3 : Int) (x11_3 : Int) (w25 : World) => N_4 ⟨s5_7.a, s5_7.n, s5_7.c⟩ x10_3 x11_3 (IntKind.wrap .i64 (x78 + (1 : Int))) w25) (fun J_9 =>
  ∃ p80 : Pt, s76.a = some ⟨p80.b, p80.o, none⟩ ∧ 0 ≤ x78 ∧ x78 < ((s76.n : Nat) : Int) ∧ ∃ b81_0 : Bool, ∃ x81_1 : Int, ∃ s81_2 : Sl, rd w24 p80.b (p80.o + Int.toNat x78 * 3) [(.bool b81_0), (.int .i64 x81_1), (.slice s81_2.a s81_2.n s81_2.c)] ∧ Let (w24.alloc (.cells (zc Try.prog 96) 96)) fun w26 => 
  StoreOk w26 w24.heap.size 0 [(.bool b81_0), (.int .i64 x81_1), (.slice s81_2.a s81_2.n s81_2.c)] 3 ∧ Let (put w26 w24.heap.size 0 [(.bool b81_0), (.int .i64 x81_1), (.slice s81_2.a s81_2.n s81_2.c)]) fun w27 => 
  ∃ x83_0 : Int, ∃ s83_1 : Sl, rd w27 w24.heap.size (0 + 1) [(.int .i64 x83_0), (.slice s83_1.a s83_1.n s83_1.c)] ∧ Calls Try.prog 62 [(.agg [(.int .i64 x83_0), (.slice s83_1.a s83_1.n s83_1.c)].toArray)].toArray w27 (fun e_2 w28 => ∃ b84 : Bool, e_2 = .returned (.bool b84) ∧
  cond (!b84) (
  R (.bool false) w28) (
  ∃ x89 : Int, World.cell? w28 ⟨w24.heap.size, ((0 + 1) + 0), none⟩ = some (.int .i64 x89) ∧ ∃ s92 : Sl, World.cell? w28 ⟨w24.heap.size, ((0 + 1) + 1), none⟩ = some (.slice s92.a s92.n s92.c) ∧ ∃ (s95 : Sl) (w29 : World), Sem.run Try.prog (Instr.buildSlice 113 1 [(0, (.agg [(.int .i64 x89), (.int .i64 ((s92.n : Nat) : Int))].toArray))].toArray) w28 = .ok (.slice s95.a s95.n s95.c) w29 ∧
  ∃ (s96 : Sl) (w30 : World), Sem.run Try.prog (Builtin.append_ #[113, 113] 113 #[(.slice s5_6.a s5_6.n s5_6.c), (.slice s95.a s95.n s95.c)]) w29 = .ok (.slice s96.a s96.n s96.c) w30 ∧
  ∃ x99_0 : Int, ∃ s99_1 : Sl, rd w30 w24.heap.size (0 + 1) [(.int .i64 x99_0), (.slice s99_1.a s99_1.n s99_1.c)] ∧ Calls Try.prog 63 [(.agg [(.int .i64 x99_0), (.slice s99_1.a s99_1.n s99_1.c)].toArray)].toArray w30 (fun e_3 w31 => ∃ x100 : Int, e_3 = .returned (.int .i64 x100) ∧
  ∃ b103 : Bool, World.cell? w31 ⟨w24.heap.size, (0 + 0), none⟩ = some (.bool b103) ∧ Join [(11, .int .i64)] (fun (x11_4 : Int) (w32 : World) => J_9 ⟨s96.a, s96.n, s96.c⟩ (bitsI .or .i64 x10_2 x100) x11_4 w32) (fun J_10 =>
  cond (!b103) (
  ∃ x107_0 : Int, ∃ s107_1 : Sl, rd w31 w24.heap.size (0 + 1) [(.int .i64 x107_0), (.slice s107_1.a s107_1.n s107_1.c)] ∧ Calls Try.prog 63 [(.agg [(.int .i64 x107_0), (.slice s107_1.a s107_1.n s107_1.c)].toArray)].toArray w31 (fun e_4 w33 => ∃ x108 : Int, e_4 = .returned (.int .i64 x108) ∧
  J_10 (bitsI .or .i64 x11_2 x108) w33)) (
  J_10 x11_2 w31))))))) (
  J_8 ⟨s5_6.a, s5_6.n, s5_6.c⟩ x10_2 x11_2 w24)))))) (fun J_11 =>
  ∃ x52_0 : Int, ∃ s52_1 : Sl, rd w18 w15.heap.size (0 + 0) [(.int .i64 x52_0), (.slice s52_1.a s52_1.n s52_1.c)] ∧ Calls Try.prog 62 [(.agg [(.int .i64 x52_0), (.slice s52_1.a s52_1.n s52_1.c)].toArray)].toArray w18 (fun e_5 w34 => ∃ b53 : Bool, e_5 = .returned (.bool b53) ∧
  cond (!b53) (J_11 true w34) (∃ s57 : Sl, World.cell? w34 ⟨w15.heap.size, (0 + 2), none⟩ = some (.slice s57.a s57.n s57.c) ∧ J_11 (decide (((s57.n : Nat) : Int) > (3 : Int))) w34))))) (
  J_6 ⟨s5_3.a, s5_3.n, s5_3.c⟩ w15)))) (fun J_12 =>
  LoopV [(5, .slice), (28, .int .i64)] (fun K => K ⟨none, 0, 0⟩ (0 : Int) w1) (fun N_5 => fun (s5_8 : Sl) (x28 : Int) (w35 : World) =>
  cond (decide (x28 < ((s1.n : Nat) : Int))) (
  Join [(5, .slice)] (fun (s5_9 : Sl) (w36 : World) => N_5 ⟨s5_9.a, s5_9.n, s5_9.c⟩ (IntKind.wrap .i64 (x28 + (1 : Int))) w36) (fun J_13 =>
  ∃ p30 : Pt, s1.a = some ⟨p30.b, p30.o, none⟩ ∧ 0 ≤ x28 ∧ x28 < ((s1.n : Nat) : Int) ∧ ∃ x31_0 : Int, ∃ s31_1 : Sl, rd w35 p30.b (p30.o + Int.toNat x28 * 2) [(.int .i64 x31_0), (.slice s31_1.a s31_1.n s31_1.c)] ∧ Let (w35.alloc (.cells (zc Try.prog 36) 36)) fun w37 => 
  StoreOk w37 w35.heap.size 0 [(.int .i64 x31_0), (.slice s31_1.a s31_1.n s31_1.c)] 2 ∧ Let (put w37 w35.heap.size 0 [(.int .i64 x31_0), (.slice s31_1.a s31_1.n s31_1.c)]) fun w38 => 
  ∃ x32_0 : Int, ∃ s32_1 : Sl, rd w38 w35.heap.size 0 [(.int .i64 x32_0), (.slice s32_1.a s32_1.n s32_1.c)] ∧ Calls Try.prog 31 [(.agg [(.int .i64 x32_0), (.slice s32_1.a s32_1.n s32_1.c)].toArray)].toArray w38 (fun e_6 w39 => ∃ b33 : Bool, e_6 = .returned (.bool b33) ∧
  cond (!b33) (
  R (.bool false) w39) (
  ∃ x37 : Int, World.cell? w39 ⟨w35.heap.size, (0 + 0), none⟩ = some (.int .i64 x37) ∧ ∃ s39 : Sl, World.cell? w39 ⟨w35.heap.size, (0 + 1), none⟩ = some (.slice s39.a s39.n s39.c) ∧ ∃ (s42 : Sl) (w40 : World), Sem.run Try.prog (Instr.buildSlice 113 1 [(0, (.agg [(.int .i64 x37), (.int .i64 ((s39.n : Nat) : Int))].toArray))].toArray) w39 = .ok (.slice s42.a s42.n s42.c) w40 ∧
  ∃ (s43 : Sl) (w41 : World), Sem.run Try.prog (Builtin.append_ #[113, 113] 113 #[(.slice s5_8.a s5_8.n s5_8.c), (.slice s42.a s42.n s42.c)]) w40 = .ok (.slice s43.a s43.n s43.c) w41 ∧
  J_13 ⟨s43.a, s43.n, s43.c⟩ w41)))) (
  J_12 ⟨s5_8.a, s5_8.n, s5_8.c⟩ w35))))) (fun J_14 =>
  cond (decide (((s0.n : Nat) : Int) > (10 : Int))) (J_14 true w) (J_14 (decide (((s1.n : Nat) : Int) > (20 : Int))) w))
theorem eq22 (s0 : Sl) (s1 : Sl) (R : Value → World → Prop) (w : World) : funV Try.prog Try.f22 An22 [(.slice s0.a s0.n s0.c), (.slice s1.a s1.n s1.c)] R w = S22 s0 s1 R w := by kernel_rfl
theorem call22 (s0 : Sl) (s1 : Sl) {R : Value → World → Prop} {w : World} (h : S22 s0 s1 R w) : Calls Try.prog 22 [(.slice s0.a s0.n s0.c), (.slice s1.a s1.n s1.c)].toArray w fun e w' => ∃ v, e = .returned v ∧ R v w' :=
  funV_calls mixed Try.func22 (an := An22) (by rw [eq22]; exact h)

/-- F69: cubeb/cubebref03.Of -/
def An69 : An := (.sq .lf (.sq .lf (.sq (.sq .lf (.bk [] (.lp [(8, .int .i64)] (.sq .lf (.sq (.cd .lf .lf) (.sq (.bk [] (.sq .lf .lf)) .lf)))))) (.sq .lf .lf))))
def S69 (s0 : Sl) (R : Value → World → Prop) (w : World) : Prop :=
  Let (w.alloc (.cells (zc Try.prog 43) 43)) fun w1 => 
  Let (w1.alloc (.cells (zc Try.prog 43) 43)) fun w2 => 
  Join [] (fun (w3 : World) => ∃ cs19 : List Value, cs19.length = 252 ∧ rd w3 w1.heap.size 0 cs19 ∧ StoreOk w3 w.heap.size 0 cs19 252 ∧ Let (put w3 w.heap.size 0 cs19) fun w4 => 
  ∃ csr2 : List Value, csr2.length = 252 ∧ rd w4 w.heap.size 0 csr2 ∧ R (.agg csr2.toArray) w4) (fun J =>
  LoopV [(8, .int .i64)] (fun K => K (0 : Int) w2) (fun N => fun (x8 : Int) (w5 : World) =>
  cond (decide (x8 < ((s0.n : Nat) : Int))) (
  Join [] (fun (w6 : World) => N (IntKind.wrap .i64 (x8 + (1 : Int))) w6) (fun J_2 =>
  ∃ p10 : Pt, s0.a = some ⟨p10.b, p10.o, none⟩ ∧ 0 ≤ x8 ∧ x8 < ((s0.n : Nat) : Int) ∧ ∃ x11_0 : Int, ∃ s11_1 : Sl, rd w5 p10.b (p10.o + Int.toNat x8 * 2) [(.int .i64 x11_0), (.slice s11_1.a s11_1.n s11_1.c)] ∧ Let (w5.alloc (.cells (zc Try.prog 36) 36)) fun w7 => 
  StoreOk w7 w5.heap.size 0 [(.int .i64 x11_0), (.slice s11_1.a s11_1.n s11_1.c)] 2 ∧ Let (put w7 w5.heap.size 0 [(.int .i64 x11_0), (.slice s11_1.a s11_1.n s11_1.c)]) fun w8 => 
  ∃ x13 : Int, World.cell? w8 ⟨w5.heap.size, (0 + 0), none⟩ = some (.int .i64 x13) ∧ ∃ s15 : Sl, World.cell? w8 ⟨w5.heap.size, (0 + 1), none⟩ = some (.slice s15.a s15.n s15.c) ∧ Calls Try.prog 94 [(.int .i64 x13), (.slice s15.a s15.n s15.c)].toArray w8 (fun e w9 => ∃ x16 : Int, e = .returned (.int .i64 x16) ∧
  0 ≤ x16 ∧ x16 < ((252 : Nat) : Int) ∧ StoreOk w9 w1.heap.size (0 + Int.toNat x16 * 1) [(.bool true)] 1 ∧ Let (put w9 w1.heap.size (0 + Int.toNat x16 * 1) [(.bool true)]) fun w10 => 
  J_2 w10))) (
  J w5)))
theorem eq69 (s0 : Sl) (R : Value → World → Prop) (w : World) : funV Try.prog Try.f69 An69 [(.slice s0.a s0.n s0.c)] R w = S69 s0 R w := by kernel_rfl
theorem call69 (s0 : Sl) {R : Value → World → Prop} {w : World} (h : S69 s0 R w) : Calls Try.prog 69 [(.slice s0.a s0.n s0.c)].toArray w fun e w' => ∃ v, e = .returned v ∧ R v w' :=
  funV_calls mixed Try.func69 (an := An69) (by rw [eq69]; exact h)

/-- F96: cubeb/cubebref03.given -/
def An96 : An := (.sq .lf (.sq .lf (.sq (.sq .lf (.bk [(5, .slice)] (.lp [(5, .slice), (11, .int .i64)] (.sq .lf (.sq (.cd .lf .lf) (.sq (.bk [(5, .slice)] (.sq .lf (.sq .lf (.cj [(5, .slice)] .lf .lf)))) .lf)))))) (.sq .lf .lf))))
def S96 (x0_0 : Int) (s0_1 : Sl) (cs1 : List Value) (R : Value → World → Prop) (w : World) : Prop :=
  Let (w.alloc (.cells [(.int .i64 x0_0), (.slice s0_1.a s0_1.n s0_1.c)].toArray 91)) fun w1 => 
  Let (w1.alloc (.cells cs1.toArray 90)) fun w2 => 
  ∃ s9 : Sl, World.cell? w2 ⟨w.heap.size, (0 + 1), none⟩ = some (.slice s9.a s9.n s9.c) ∧ Join [(5, .slice)] (fun (s5 : Sl) (w3 : World) => ∃ x30 : Int, World.cell? w3 ⟨w.heap.size, (0 + 0), none⟩ = some (.int .i64 x30) ∧ Calls Try.prog 94 [(.int .i64 x30), (.slice s5.a s5.n s5.c)].toArray w3 (fun e w4 => ∃ x32 : Int, e = .returned (.int .i64 x32) ∧
  R (.int .i64 x32) w4)) (fun J =>
  LoopV [(5, .slice), (11, .int .i64)] (fun K => K ⟨none, 0, 0⟩ (0 : Int) w2) (fun N => fun (s5_2 : Sl) (x11 : Int) (w5 : World) =>
  cond (decide (x11 < ((s9.n : Nat) : Int))) (
  Join [(5, .slice)] (fun (s5_3 : Sl) (w6 : World) => N ⟨s5_3.a, s5_3.n, s5_3.c⟩ (IntKind.wrap .i64 (x11 + (1 : Int))) w6) (fun J_2 =>
  ∃ p13 : Pt, s9.a = some ⟨p13.b, p13.o, none⟩ ∧ 0 ≤ x11 ∧ x11 < ((s9.n : Nat) : Int) ∧ ∃ x14 : Int, World.cell? w5 ⟨p13.b, (p13.o + Int.toNat x11 * 1), none⟩ = some (.int .i64 x14) ∧ Join [(5, .slice)] (fun (s5_4 : Sl) (w7 : World) => J_2 ⟨s5_4.a, s5_4.n, s5_4.c⟩ w7) (fun J_3 =>
  cond (decide (x14 < (0 : Int))) (
  ∃ (s20 : Sl) (w8 : World), Sem.run Try.prog (Instr.buildSlice 34 1 [(0, (.int .i64 (IntKind.wrap .i64 (0 - x14))))].toArray) w5 = .ok (.slice s20.a s20.n s20.c) w8 ∧
  ∃ (s21 : Sl) (w9 : World), Sem.run Try.prog (Builtin.append_ #[34, 34] 34 #[(.slice s5_2.a s5_2.n s5_2.c), (.slice s20.a s20.n s20.c)]) w8 = .ok (.slice s21.a s21.n s21.c) w9 ∧
  J_3 ⟨s21.a, s21.n, s21.c⟩ w9) (
  0 ≤ x14 ∧ x14 < ((8 : Nat) : Int) ∧ ∃ x25 : Int, World.cell? w5 ⟨w1.heap.size, (0 + Int.toNat x14 * 1), none⟩ = some (.int .i64 x25) ∧ ∃ (s26 : Sl) (w10 : World), Sem.run Try.prog (Instr.buildSlice 34 1 [(0, (.int .i64 x25))].toArray) w5 = .ok (.slice s26.a s26.n s26.c) w10 ∧
  ∃ (s27 : Sl) (w11 : World), Sem.run Try.prog (Builtin.append_ #[34, 34] 34 #[(.slice s5_2.a s5_2.n s5_2.c), (.slice s26.a s26.n s26.c)]) w10 = .ok (.slice s27.a s27.n s27.c) w11 ∧
  J_3 ⟨s27.a, s27.n, s27.c⟩ w11)))) (
  J ⟨s5_2.a, s5_2.n, s5_2.c⟩ w5)))
theorem eq96 (x0_0 : Int) (s0_1 : Sl) (cs1 : List Value) (R : Value → World → Prop) (w : World) : funV Try.prog Try.f96 An96 [(.agg [(.int .i64 x0_0), (.slice s0_1.a s0_1.n s0_1.c)].toArray), (.agg cs1.toArray)] R w = S96 x0_0 s0_1 cs1 R w := by kernel_rfl
theorem call96 (x0_0 : Int) (s0_1 : Sl) (cs1 : List Value) {R : Value → World → Prop} {w : World} (h : S96 x0_0 s0_1 cs1 R w) : Calls Try.prog 96 [(.agg [(.int .i64 x0_0), (.slice s0_1.a s0_1.n s0_1.c)].toArray), (.agg cs1.toArray)].toArray w fun e w' => ∃ v, e = .returned v ∧ R v w' :=
  funV_calls mixed Try.func96 (an := An96) (by rw [eq96]; exact h)

/-- F95: cubeb/cubebref03.instances -/
def An95 : An := (.sq .lf (.sq (.sq .lf (.cd (.sq .lf .lf) .lf)) (.sq .lf (.sq (.sq .lf (.cd (.sq .lf .lf) .lf)) (.sq .lf (.sq (.sq .lf (.bk [(10, .slice)] (.lp [(10, .slice), (39, .int .i64)] (.sq .lf (.sq (.cd .lf .lf) (.sq (.bk [(10, .slice)] (.sq .lf (.sq .lf (.sq (.sq (.rj [] [(64, .bool)]) (.cd .lf .lf)) (.sq .lf (.sq (.sq .lf (.bk [(15, .bool)] (.lp [(15, .bool), (70, .int .i64)] (.sq .lf (.sq (.cd .lf .lf) (.sq (.bk [(15, .bool)] (.sq .lf (.bk [(15, .bool)] (.sq .lf (.cj [(15, .bool)] (.rj [] [(15, .bool)]) (.sq .lf (.cj [(15, .bool)] (.dr [0, 1, 2, 3, 4, 5, 6, 7, 8, 9, 10, 11, 12] [] false (some [(15, .bool)])) .lf))))))) .lf)))))) (.sq .lf (.cj [(10, .slice)] .lf .lf)))))))) .lf)))))) (.sq .lf .lf)))))))
def S95 (x0_0 : Int) (s0_1 : Sl) (s0_2 : Sl) (cs1 : List Value) (x2 : Int) (cs3 : List Value) (R : Value → World → Prop) (w : World) : Prop :=
  Let (w.alloc (.cells [(.int .i64 x0_0), (.slice s0_1.a s0_1.n s0_1.c), (.slice s0_2.a s0_2.n s0_2.c)].toArray 94)) fun w1 => 
  Let (w1.alloc (.cells cs1.toArray 43)) fun w2 => 
  Let (w2.alloc (.cells cs3.toArray 90)) fun w3 => 
  ∃ s20 : Sl, World.cell? w3 ⟨w.heap.size, (0 + 2), none⟩ = some (.slice s20.a s20.n s20.c) ∧ cond (x2 == ((s20.n : Nat) : Int)) (
  ∃ cs23 : List Value, cs23.length = 8 ∧ rd w3 w2.heap.size 0 cs23 ∧ ∃ (s24 : Sl) (w4 : World), Sem.run Try.prog (Instr.buildSlice 157 1 [(0, (.agg cs23.toArray))].toArray) w3 = .ok (.slice s24.a s24.n s24.c) w4 ∧
  R (.slice s24.a s24.n s24.c) w4) (
  ∃ s26 : Sl, World.cell? w3 ⟨w.heap.size, (0 + 2), none⟩ = some (.slice s26.a s26.n s26.c) ∧ ∃ p28 : Pt, s26.a = some ⟨p28.b, p28.o, none⟩ ∧ 0 ≤ x2 ∧ x2 < ((s26.n : Nat) : Int) ∧ ∃ b29_0 : Bool, ∃ x29_1 : Int, ∃ s29_2 : Sl, rd w3 p28.b (p28.o + Int.toNat x2 * 3) [(.bool b29_0), (.int .i64 x29_1), (.slice s29_2.a s29_2.n s29_2.c)] ∧ Let (w3.alloc (.cells (zc Try.prog 96) 96)) fun w5 => 
  StoreOk w5 w3.heap.size 0 [(.bool b29_0), (.int .i64 x29_1), (.slice s29_2.a s29_2.n s29_2.c)] 3 ∧ Let (put w5 w3.heap.size 0 [(.bool b29_0), (.int .i64 x29_1), (.slice s29_2.a s29_2.n s29_2.c)]) fun w6 => 
  ∃ b31 : Bool, World.cell? w6 ⟨w3.heap.size, (0 + 0), none⟩ = some (.bool b31) ∧ cond b31 (
  ∃ x32_0 : Int, ∃ s32_1 : Sl, ∃ s32_2 : Sl, rd w6 w.heap.size 0 [(.int .i64 x32_0), (.slice s32_1.a s32_1.n s32_1.c), (.slice s32_2.a s32_2.n s32_2.c)] ∧ ∃ cs33 : List Value, cs33.length = 252 ∧ rd w6 w1.heap.size 0 cs33 ∧ ∃ cs36 : List Value, cs36.length = 8 ∧ rd w6 w2.heap.size 0 cs36 ∧ Calls Try.prog 95 [(.agg [(.int .i64 x32_0), (.slice s32_1.a s32_1.n s32_1.c), (.slice s32_2.a s32_2.n s32_2.c)].toArray), (.agg cs33.toArray), (.int .i64 (IntKind.wrap .i64 (x2 + (1 : Int)))), (.agg cs36.toArray)].toArray w6 (fun e w7 => ∃ s37 : Sl, e = .returned (.slice s37.a s37.n s37.c) ∧
  R (.slice s37.a s37.n s37.c) w7)) (
  ∃ cs38 : List Value, cs38.length = 252 ∧ rd w6 w1.heap.size 0 cs38 ∧ Join [(10, .slice)] (fun (s10 : Sl) (w8 : World) => R (.slice s10.a s10.n s10.c) w8) (fun J =>
  LoopV [(10, .slice), (39, .int .i64)] (fun K => K ⟨none, 0, 0⟩ (0 : Int) w6) (fun N => fun (s10_2 : Sl) (x39 : Int) (w9 : World) =>
  cond (decide (x39 < (252 : Int))) (
  Join [(10, .slice)] (fun (s10_3 : Sl) (w10 : World) => N ⟨s10_3.a, s10_3.n, s10_3.c⟩ (IntKind.wrap .i64 (x39 + (1 : Int))) w10) (fun J_2 =>
  0 ≤ x39 ∧ x39 < ((252 : Nat) : Int) ∧ ∃ b42 : Bool, (cs38 : List Value)[Int.toNat x39]? = some (.bool b42) ∧ Calls Try.prog 73 [(.int .i64 x39)].toArray w9 (fun e_2 w11 => ∃ x44_0 : Int, ∃ s44_1 : Sl, e_2 = .returned (.agg [(.int .i64 x44_0), (.slice s44_1.a s44_1.n s44_1.c)].toArray) ∧
  Let (w11.alloc (.cells (zc Try.prog 36) 36)) fun w12 => 
  StoreOk w12 w11.heap.size 0 [(.int .i64 x44_0), (.slice s44_1.a s44_1.n s44_1.c)] 2 ∧ Let (put w12 w11.heap.size 0 [(.int .i64 x44_0), (.slice s44_1.a s44_1.n s44_1.c)]) fun w13 => 
  Join [(64, .bool)] (fun (b64 : Bool) (w14 : World) => cond b64 (
  J_2 ⟨s10_2.a, s10_2.n, s10_2.c⟩ w14) (
  ∃ cs65 : List Value, cs65.length = 8 ∧ rd w14 w2.heap.size 0 cs65 ∧ Let (w14.alloc (.cells (zc Try.prog 90) 90)) fun w15 => 
  StoreOk w15 w14.heap.size 0 cs65 8 ∧ Let (put w15 w14.heap.size 0 cs65) fun w16 => 
  ∃ s68 : Sl, World.cell? w16 ⟨w3.heap.size, ((0 + 1) + 1), none⟩ = some (.slice s68.a s68.n s68.c) ∧ Join [(15, .bool)] (fun (b15 : Bool) (w17 : World) => Join [(10, .slice)] (fun (s10_4 : Sl) (w18 : World) => J_2 ⟨s10_4.a, s10_4.n, s10_4.c⟩ w18) (fun J_3 =>
  cond b15 (
  ∃ x116_0 : Int, ∃ s116_1 : Sl, ∃ s116_2 : Sl, rd w17 w.heap.size 0 [(.int .i64 x116_0), (.slice s116_1.a s116_1.n s116_1.c), (.slice s116_2.a s116_2.n s116_2.c)] ∧ ∃ cs117 : List Value, cs117.length = 252 ∧ rd w17 w1.heap.size 0 cs117 ∧ ∃ cs120 : List Value, cs120.length = 8 ∧ rd w17 w14.heap.size 0 cs120 ∧ Calls Try.prog 95 [(.agg [(.int .i64 x116_0), (.slice s116_1.a s116_1.n s116_1.c), (.slice s116_2.a s116_2.n s116_2.c)].toArray), (.agg cs117.toArray), (.int .i64 (IntKind.wrap .i64 (x2 + (1 : Int)))), (.agg cs120.toArray)].toArray w17 (fun e_3 w19 => ∃ s121 : Sl, e_3 = .returned (.slice s121.a s121.n s121.c) ∧
  ∃ (s122 : Sl) (w20 : World), Sem.run Try.prog (Builtin.append_ #[157, 157] 157 #[(.slice s10_2.a s10_2.n s10_2.c), (.slice s121.a s121.n s121.c)]) w19 = .ok (.slice s122.a s122.n s122.c) w20 ∧
  J_3 ⟨s122.a, s122.n, s122.c⟩ w20)) (
  J_3 ⟨s10_2.a, s10_2.n, s10_2.c⟩ w17))) (fun J_4 =>
  LoopV [(15, .bool), (70, .int .i64)] (fun K => K true (0 : Int) w16) (fun N_2 => fun (b15_2 : Bool) (x70 : Int) (w21 : World) =>
  cond (decide (x70 < ((s68.n : Nat) : Int))) (
  Join [(15, .bool)] (fun (b15_3 : Bool) (w22 : World) => N_2 b15_3 (IntKind.wrap .i64 (x70 + (1 : Int))) w22) (fun J_5 =>
  ∃ p73 : Pt, s68.a = some ⟨p73.b, p73.o, none⟩ ∧ 0 ≤ x70 ∧ x70 < ((s68.n : Nat) : Int) ∧ ∃ x74 : Int, World.cell? w21 ⟨p73.b, (p73.o + Int.toNat x70 * 1), none⟩ = some (.int .i64 x74) ∧ Join [(15, .bool)] (fun (b15_4 : Bool) (w23 : World) => J_5 b15_4 w23) (fun J_6 =>
  Join [(15, .bool)] (fun (b15_5 : Bool) (w24 : World) => J_6 b15_5 w24) (fun J_7 =>
  cond (decide (x74 < (0 : Int))) (
  Join [(15, .bool)] (fun (b15_6 : Bool) (w25 : World) => J_7 b15_6 w25) (fun J_8 =>
  cond b15_2 (∃ s88 : Sl, World.cell? w21 ⟨w11.heap.size, (0 + 1), none⟩ = some (.slice s88.a s88.n s88.c) ∧ ∃ p90 : Pt, s88.a = some ⟨p90.b, p90.o, none⟩ ∧ 0 ≤ x70 ∧ x70 < ((s88.n : Nat) : Int) ∧ ∃ x91 : Int, World.cell? w21 ⟨p90.b, (p90.o + Int.toNat x70 * 1), none⟩ = some (.int .i64 x91) ∧ J_8 (x91 == (IntKind.wrap .i64 (0 - x74))) w21) (J_8 false w21))) (
  0 ≤ x74 ∧ x74 < ((8 : Nat) : Int) ∧ ∃ x99 : Int, World.cell? w21 ⟨w14.heap.size, (0 + Int.toNat x74 * 1), none⟩ = some (.int .i64 x99) ∧ Join [(15, .bool)] (fun (b15_7 : Bool) (w26 : World) => J_7 b15_7 w26) (fun J_9 =>
  cond (x99 != (0 : Int)) (
  Join [(15, .bool)] (fun (b15_8 : Bool) (w27 : World) => J_9 b15_8 w27) (fun J_10 =>
  Let w21.drew fun w28 =>
  cond b15_2 (∃ s104 : Sl, World.cell? w28 ⟨w11.heap.size, (0 + 1), none⟩ = some (.slice s104.a s104.n s104.c) ∧ ∃ p106 : Pt, s104.a = some ⟨p106.b, p106.o, none⟩ ∧ 0 ≤ x70 ∧ x70 < ((s104.n : Nat) : Int) ∧ ∃ x107 : Int, World.cell? w28 ⟨p106.b, (p106.o + Int.toNat x70 * 1), none⟩ = some (.int .i64 x107) ∧ 0 ≤ x74 ∧ x74 < ((8 : Nat) : Int) ∧ ∃ x110 : Int, World.cell? w28 ⟨w14.heap.size, (0 + Int.toNat x74 * 1), none⟩ = some (.int .i64 x110) ∧ J_10 (x107 == x110) w28) (J_10 false w28))) (
  ∃ s77 : Sl, World.cell? w21 ⟨w11.heap.size, (0 + 1), none⟩ = some (.slice s77.a s77.n s77.c) ∧ ∃ p79 : Pt, s77.a = some ⟨p79.b, p79.o, none⟩ ∧ 0 ≤ x70 ∧ x70 < ((s77.n : Nat) : Int) ∧ ∃ x80 : Int, World.cell? w21 ⟨p79.b, (p79.o + Int.toNat x70 * 1), none⟩ = some (.int .i64 x80) ∧ 0 ≤ x74 ∧ x74 < ((8 : Nat) : Int) ∧ StoreOk w21 w14.heap.size (0 + Int.toNat x74 * 1) [(.int .i64 x80)] 1 ∧ Let (put w21 w14.heap.size (0 + Int.toNat x74 * 1) [(.int .i64 x80)]) fun w29 => 
  J_9 b15_2 w29))))))) (
  J_4 b15_2 w21))))) (fun J_11 =>
  cond (!b42) (J_11 true w13) (∃ x49 : Int, World.cell? w13 ⟨w11.heap.size, (0 + 0), none⟩ = some (.int .i64 x49) ∧ ∃ x52 : Int, World.cell? w13 ⟨w3.heap.size, ((0 + 1) + 0), none⟩ = some (.int .i64 x52) ∧ cond (x49 != x52) (J_11 true w13) (∃ s57 : Sl, World.cell? w13 ⟨w11.heap.size, (0 + 1), none⟩ = some (.slice s57.a s57.n s57.c) ∧ ∃ s61 : Sl, World.cell? w13 ⟨w3.heap.size, ((0 + 1) + 1), none⟩ = some (.slice s61.a s61.n s61.c) ∧ J_11 (((s57.n : Nat) : Int) != ((s61.n : Nat) : Int)) w13)))))) (
  J ⟨s10_2.a, s10_2.n, s10_2.c⟩ w9)))))
theorem eq95 (x0_0 : Int) (s0_1 : Sl) (s0_2 : Sl) (cs1 : List Value) (x2 : Int) (cs3 : List Value) (R : Value → World → Prop) (w : World) : funV Try.prog Try.f95 An95 [(.agg [(.int .i64 x0_0), (.slice s0_1.a s0_1.n s0_1.c), (.slice s0_2.a s0_2.n s0_2.c)].toArray), (.agg cs1.toArray), (.int .i64 x2), (.agg cs3.toArray)] R w = S95 x0_0 s0_1 s0_2 cs1 x2 cs3 R w := by kernel_rfl
theorem call95 (x0_0 : Int) (s0_1 : Sl) (s0_2 : Sl) (cs1 : List Value) (x2 : Int) (cs3 : List Value) {R : Value → World → Prop} {w : World} (h : S95 x0_0 s0_1 s0_2 cs1 x2 cs3 R w) : Calls Try.prog 95 [(.agg [(.int .i64 x0_0), (.slice s0_1.a s0_1.n s0_1.c), (.slice s0_2.a s0_2.n s0_2.c)].toArray), (.agg cs1.toArray), (.int .i64 x2), (.agg cs3.toArray)].toArray w fun e w' => ∃ v, e = .returned v ∧ R v w' :=
  funV_calls mixed Try.func95 (an := An95) (by rw [eq95]; exact h)

/-- F97: cubeb/cubebref03.free -/
def An97 : An := (.sq .lf (.sq (.sq .lf (.bk [] (.lp [(12, .int .i64)] (.sq .lf (.sq (.cd .lf .lf) (.sq (.bk [] (.sq .lf (.sq (.rj [] [(25, .bool)]) (.cd (.sq .lf .lf) .lf)))) .lf)))))) (.sq .lf .lf)))
def S97 (x0_0 : Int) (s0_1 : Sl) (s0_2 : Sl) (cs1 : List Value) (cs2 : List Value) (R : Value → World → Prop) (w : World) : Prop :=
  Let (w.alloc (.cells [(.int .i64 x0_0), (.slice s0_1.a s0_1.n s0_1.c), (.slice s0_2.a s0_2.n s0_2.c)].toArray 94)) fun w1 => 
  Let (w1.alloc (.cells cs1.toArray 90)) fun w2 => 
  Let (w2.alloc (.cells cs2.toArray 43)) fun w3 => 
  ∃ s10 : Sl, World.cell? w3 ⟨w.heap.size, (0 + 2), none⟩ = some (.slice s10.a s10.n s10.c) ∧ Join [] (fun (w4 : World) => R (.bool true) w4) (fun J =>
  LoopV [(12, .int .i64)] (fun K => K (0 : Int) w3) (fun N => fun (x12 : Int) (w5 : World) =>
  cond (decide (x12 < ((s10.n : Nat) : Int))) (
  Join [] (fun (w6 : World) => N (IntKind.wrap .i64 (x12 + (1 : Int))) w6) (fun J_2 =>
  ∃ p14 : Pt, s10.a = some ⟨p14.b, p14.o, none⟩ ∧ 0 ≤ x12 ∧ x12 < ((s10.n : Nat) : Int) ∧ ∃ b15_0 : Bool, ∃ x15_1 : Int, ∃ s15_2 : Sl, rd w5 p14.b (p14.o + Int.toNat x12 * 3) [(.bool b15_0), (.int .i64 x15_1), (.slice s15_2.a s15_2.n s15_2.c)] ∧ Let (w5.alloc (.cells (zc Try.prog 96) 96)) fun w7 => 
  StoreOk w7 w5.heap.size 0 [(.bool b15_0), (.int .i64 x15_1), (.slice s15_2.a s15_2.n s15_2.c)] 3 ∧ Let (put w7 w5.heap.size 0 [(.bool b15_0), (.int .i64 x15_1), (.slice s15_2.a s15_2.n s15_2.c)]) fun w8 => 
  Join [(25, .bool)] (fun (b25 : Bool) (w9 : World) => cond b25 (
  R (.bool false) w9) (
  J_2 w9)) (fun J_3 =>
  ∃ b17 : Bool, World.cell? w8 ⟨w5.heap.size, (0 + 0), none⟩ = some (.bool b17) ∧ cond b17 (∃ x20_0 : Int, ∃ s20_1 : Sl, rd w8 w5.heap.size (0 + 1) [(.int .i64 x20_0), (.slice s20_1.a s20_1.n s20_1.c)] ∧ ∃ cs21 : List Value, cs21.length = 8 ∧ rd w8 w1.heap.size 0 cs21 ∧ Calls Try.prog 96 [(.agg [(.int .i64 x20_0), (.slice s20_1.a s20_1.n s20_1.c)].toArray), (.agg cs21.toArray)].toArray w8 (fun e w10 => ∃ x22 : Int, e = .returned (.int .i64 x22) ∧
  0 ≤ x22 ∧ x22 < ((252 : Nat) : Int) ∧ ∃ b24 : Bool, World.cell? w10 ⟨w2.heap.size, (0 + Int.toNat x22 * 1), none⟩ = some (.bool b24) ∧ J_3 b24 w10)) (J_3 false w8)))) (
  J w5)))
theorem eq97 (x0_0 : Int) (s0_1 : Sl) (s0_2 : Sl) (cs1 : List Value) (cs2 : List Value) (R : Value → World → Prop) (w : World) : funV Try.prog Try.f97 An97 [(.agg [(.int .i64 x0_0), (.slice s0_1.a s0_1.n s0_1.c), (.slice s0_2.a s0_2.n s0_2.c)].toArray), (.agg cs1.toArray), (.agg cs2.toArray)] R w = S97 x0_0 s0_1 s0_2 cs1 cs2 R w := by kernel_rfl
theorem call97 (x0_0 : Int) (s0_1 : Sl) (s0_2 : Sl) (cs1 : List Value) (cs2 : List Value) {R : Value → World → Prop} {w : World} (h : S97 x0_0 s0_1 s0_2 cs1 cs2 R w) : Calls Try.prog 97 [(.agg [(.int .i64 x0_0), (.slice s0_1.a s0_1.n s0_1.c), (.slice s0_2.a s0_2.n s0_2.c)].toArray), (.agg cs1.toArray), (.agg cs2.toArray)].toArray w fun e w' => ∃ v, e = .returned v ∧ R v w' :=
  funV_calls mixed Try.func97 (an := An97) (by rw [eq97]; exact h)

/-- F70: cubeb/cubebref03.Consequences -/
def An70 : An := (.sq .lf (.sq (.sq .lf (.bk [] (.lp [(7, .bool)] (.sq (.sq .lf (.cd .lf .lf)) (.bk [(7, .bool)] (.sq .lf (.sq .lf (.bk [(7, .bool)] (.lp [(7, .bool), (16, .int .i64)] (.sq .lf (.sq (.cd .lf .lf) (.sq (.bk [(7, .bool)] (.sq .lf (.sq .lf (.bk [(7, .bool)] (.lp [(7, .bool), (25, .int .i64)] (.sq .lf (.sq (.cd .lf .lf) (.sq (.bk [(7, .bool)] (.sq .lf (.sq .lf (.sq (.rj [] [(42, .bool)]) (.cj [(7, .bool)] (.sq .lf .lf) .lf))))) .lf)))))))) .lf)))))))))))) (.sq .lf .lf)))
def S70 (s0 : Sl) (cs1 : List Value) (cs2 : List Value) (R : Value → World → Prop) (w : World) : Prop :=
  Let (w.alloc (.cells cs1.toArray 43)) fun w1 => 
  Let (w1.alloc (.cells cs2.toArray 43)) fun w2 => 
  Let (w2.alloc (.cells (zc Try.prog 43) 43)) fun w3 => 
  Join [] (fun (w4 : World) => ∃ cs47 : List Value, cs47.length = 252 ∧ rd w4 w.heap.size 0 cs47 ∧ StoreOk w4 w2.heap.size 0 cs47 252 ∧ Let (put w4 w2.heap.size 0 cs47) fun w5 => 
  ∃ csr6 : List Value, csr6.length = 252 ∧ rd w5 w2.heap.size 0 csr6 ∧ R (.agg csr6.toArray) w5) (fun J =>
  LoopV [(7, .bool)] (fun K => K true w3) (fun N => fun (b7 : Bool) (w6 : World) =>
  cond b7 (
  Join [(7, .bool)] (fun (b7_2 : Bool) (w7 : World) => N b7_2 w7) (fun J_2 =>
  Join [(7, .bool)] (fun (b7_3 : Bool) (w8 : World) => J_2 b7_3 w8) (fun J_3 =>
  LoopV [(7, .bool), (16, .int .i64)] (fun K => K false (0 : Int) w6) (fun N_2 => fun (b7_4 : Bool) (x16 : Int) (w9 : World) =>
  cond (decide (x16 < ((s0.n : Nat) : Int))) (
  Join [(7, .bool)] (fun (b7_5 : Bool) (w10 : World) => N_2 b7_5 (IntKind.wrap .i64 (x16 + (1 : Int))) w10) (fun J_4 =>
  ∃ p18 : Pt, s0.a = some ⟨p18.b, p18.o, none⟩ ∧ 0 ≤ x16 ∧ x16 < ((s0.n : Nat) : Int) ∧ ∃ x19_0 : Int, ∃ s19_1 : Sl, ∃ s19_2 : Sl, rd w9 p18.b (p18.o + Int.toNat x16 * 3) [(.int .i64 x19_0), (.slice s19_1.a s19_1.n s19_1.c), (.slice s19_2.a s19_2.n s19_2.c)] ∧ Let (w9.alloc (.cells (zc Try.prog 94) 94)) fun w11 => 
  StoreOk w11 w9.heap.size 0 [(.int .i64 x19_0), (.slice s19_1.a s19_1.n s19_1.c), (.slice s19_2.a s19_2.n s19_2.c)] 3 ∧ Let (put w11 w9.heap.size 0 [(.int .i64 x19_0), (.slice s19_1.a s19_1.n s19_1.c), (.slice s19_2.a s19_2.n s19_2.c)]) fun w12 => 
  ∃ x20_0 : Int, ∃ s20_1 : Sl, ∃ s20_2 : Sl, rd w12 w9.heap.size 0 [(.int .i64 x20_0), (.slice s20_1.a s20_1.n s20_1.c), (.slice s20_2.a s20_2.n s20_2.c)] ∧ ∃ cs21 : List Value, cs21.length = 252 ∧ rd w12 w.heap.size 0 cs21 ∧ Calls Try.prog 95 [(.agg [(.int .i64 x20_0), (.slice s20_1.a s20_1.n s20_1.c), (.slice s20_2.a s20_2.n s20_2.c)].toArray), (.agg cs21.toArray), (.int .i64 (0 : Int)), (.agg [(.int .i64 (0 : Int)), (.int .i64 (0 : Int)), (.int .i64 (0 : Int)), (.int .i64 (0 : Int)), (.int .i64 (0 : Int)), (.int .i64 (0 : Int)), (.int .i64 (0 : Int)), (.int .i64 (0 : Int))].toArray)].toArray w12 (fun e w13 => ∃ s23 : Sl, e = .returned (.slice s23.a s23.n s23.c) ∧
  Join [(7, .bool)] (fun (b7_6 : Bool) (w14 : World) => J_4 b7_6 w14) (fun J_5 =>
  LoopV [(7, .bool), (25, .int .i64)] (fun K => K b7_4 (0 : Int) w13) (fun N_3 => fun (b7_7 : Bool) (x25 : Int) (w15 : World) =>
  cond (decide (x25 < ((s23.n : Nat) : Int))) (
  Join [(7, .bool)] (fun (b7_8 : Bool) (w16 : World) => N_3 b7_8 (IntKind.wrap .i64 (x25 + (1 : Int))) w16) (fun J_6 =>
  ∃ p27 : Pt, s23.a = some ⟨p27.b, p27.o, none⟩ ∧ 0 ≤ x25 ∧ x25 < ((s23.n : Nat) : Int) ∧ ∃ cs28 : List Value, cs28.length = 8 ∧ rd w15 p27.b (p27.o + Int.toNat x25 * 8) cs28 ∧ Let (w15.alloc (.cells (zc Try.prog 90) 90)) fun w17 => 
  StoreOk w17 w15.heap.size 0 cs28 8 ∧ Let (put w17 w15.heap.size 0 cs28) fun w18 => 
  ∃ x30_0 : Int, ∃ s30_1 : Sl, rd w18 w9.heap.size (0 + 0) [(.int .i64 x30_0), (.slice s30_1.a s30_1.n s30_1.c)] ∧ ∃ cs31 : List Value, cs31.length = 8 ∧ rd w18 w15.heap.size 0 cs31 ∧ Calls Try.prog 96 [(.agg [(.int .i64 x30_0), (.slice s30_1.a s30_1.n s30_1.c)].toArray), (.agg cs31.toArray)].toArray w18 (fun e_2 w19 => ∃ x32 : Int, e_2 = .returned (.int .i64 x32) ∧
  Join [(42, .bool)] (fun (b42 : Bool) (w20 : World) => Join [(7, .bool)] (fun (b7_9 : Bool) (w21 : World) => J_6 b7_9 w21) (fun J_7 =>
  cond b42 (
  0 ≤ x32 ∧ x32 < ((252 : Nat) : Int) ∧ StoreOk w20 w.heap.size (0 + Int.toNat x32 * 1) [(.bool true)] 1 ∧ Let (put w20 w.heap.size (0 + Int.toNat x32 * 1) [(.bool true)]) fun w22 => 
  J_7 true w22) (
  J_7 b7_7 w20))) (fun J_8 =>
  ∃ x33_0 : Int, ∃ s33_1 : Sl, ∃ s33_2 : Sl, rd w19 w9.heap.size 0 [(.int .i64 x33_0), (.slice s33_1.a s33_1.n s33_1.c), (.slice s33_2.a s33_2.n s33_2.c)] ∧ ∃ cs34 : List Value, cs34.length = 8 ∧ rd w19 w15.heap.size 0 cs34 ∧ ∃ cs35 : List Value, cs35.length = 252 ∧ rd w19 w1.heap.size 0 cs35 ∧ Calls Try.prog 97 [(.agg [(.int .i64 x33_0), (.slice s33_1.a s33_1.n s33_1.c), (.slice s33_2.a s33_2.n s33_2.c)].toArray), (.agg cs34.toArray), (.agg cs35.toArray)].toArray w19 (fun e_3 w23 => ∃ b36 : Bool, e_3 = .returned (.bool b36) ∧
  cond b36 (0 ≤ x32 ∧ x32 < ((252 : Nat) : Int) ∧ ∃ b40 : Bool, World.cell? w23 ⟨w.heap.size, (0 + Int.toNat x32 * 1), none⟩ = some (.bool b40) ∧ J_8 (!b40) w23) (J_8 false w23)))))) (
  J_5 b7_7 w15)))))) (
  J_3 b7_4 w9))))) (
  J w6)))
theorem eq70 (s0 : Sl) (cs1 : List Value) (cs2 : List Value) (R : Value → World → Prop) (w : World) : funV Try.prog Try.f70 An70 [(.slice s0.a s0.n s0.c), (.agg cs1.toArray), (.agg cs2.toArray)] R w = S70 s0 cs1 cs2 R w := by kernel_rfl
theorem call70 (s0 : Sl) (cs1 : List Value) (cs2 : List Value) {R : Value → World → Prop} {w : World} (h : S70 s0 cs1 cs2 R w) : Calls Try.prog 70 [(.slice s0.a s0.n s0.c), (.agg cs1.toArray), (.agg cs2.toArray)].toArray w fun e w' => ∃ v, e = .returned v ∧ R v w' :=
  funV_calls mixed Try.func70 (an := An70) (by rw [eq70]; exact h)

/-- F38: cubeb/cubebref03.Strata -/
def An38 : An := (.sq .lf (.sq .lf (.sq (.sq .lf (.bk [] (.lp [(13, .int .i64)] (.sq .lf (.sq (.cd .lf .lf) (.sq (.bk [] (.sq .lf (.bk [] (.lp [(17, .int .i64)] (.sq .lf (.sq (.cd .lf .lf) (.sq (.bk [] (.sq .lf (.sq .lf (.bk [] (.lp [(24, .int .i64)] (.sq .lf (.sq (.cd .lf .lf) (.sq (.bk [] (.sq .lf (.sq .lf (.sq (.sq .lf (.cj [(9, .int .i64)] .lf .lf)) (.dr [0, 1, 2, 3, 4, 5, 6, 7, 8, 9, 10, 11, 12, 13] [] false none))))) .lf)))))))) .lf))))))) .lf)))))) (.sq (.sq .lf (.bk [] (.lp [(56, .int .i64)] (.sq .lf (.sq (.cd .lf .lf) (.sq (.bk [] (.sq .lf (.sq .lf (.cd (.sq .lf .lf) .lf)))) .lf)))))) (.sq .lf .lf)))))
def S38 (s0 : Sl) (R : Value → World → Prop) (w : World) : Prop :=
  ∃ (s12 : Sl) (w1 : World), Sem.run Try.prog (Instr.makeSlice 34 (.int .i64 (6 : Int)) (.int .i64 (6 : Int))) w = .ok (.slice s12.a s12.n s12.c) w1 ∧
  Join [] (fun (w2 : World) => Join [] (fun (w3 : World) => R (.tuple [(.slice s12.a s12.n s12.c), (.int .i64 (0 : Int))].toArray) w3) (fun J =>
  LoopV [(56, .int .i64)] (fun K => K (0 : Int) w2) (fun N => fun (x56 : Int) (w4 : World) =>
  cond (decide (x56 < ((s12.n : Nat) : Int))) (
  Join [] (fun (w5 : World) => N (IntKind.wrap .i64 (x56 + (1 : Int))) w5) (fun J_2 =>
  ∃ p58 : Pt, s12.a = some ⟨p58.b, p58.o, none⟩ ∧ 0 ≤ x56 ∧ x56 < ((s12.n : Nat) : Int) ∧ ∃ x59 : Int, World.cell? w4 ⟨p58.b, (p58.o + Int.toNat x56 * 1), none⟩ = some (.int .i64 x59) ∧ cond (decide (x59 > (5 : Int))) (
  R (.tuple [(.slice none 0 0), (.int .i64 (8 : Int))].toArray) w4) (
  J_2 w4))) (
  J w4)))) (fun J_3 =>
  LoopV [(13, .int .i64)] (fun K => K (0 : Int) w1) (fun N_2 => fun (x13 : Int) (w6 : World) =>
  cond (decide (x13 < (60 : Int))) (
  Join [] (fun (w7 : World) => N_2 (IntKind.wrap .i64 (x13 + (1 : Int))) w7) (fun J_4 =>
  Join [] (fun (w8 : World) => J_4 w8) (fun J_5 =>
  LoopV [(17, .int .i64)] (fun K => K (0 : Int) w6) (fun N_3 => fun (x17 : Int) (w9 : World) =>
  cond (decide (x17 < ((s0.n : Nat) : Int))) (
  Join [] (fun (w10 : World) => N_3 (IntKind.wrap .i64 (x17 + (1 : Int))) w10) (fun J_6 =>
  ∃ p19 : Pt, s0.a = some ⟨p19.b, p19.o, none⟩ ∧ 0 ≤ x17 ∧ x17 < ((s0.n : Nat) : Int) ∧ ∃ x20_0 : Int, ∃ s20_1 : Sl, ∃ s20_2 : Sl, rd w9 p19.b (p19.o + Int.toNat x17 * 3) [(.int .i64 x20_0), (.slice s20_1.a s20_1.n s20_1.c), (.slice s20_2.a s20_2.n s20_2.c)] ∧ Let (w9.alloc (.cells (zc Try.prog 94) 94)) fun w11 => 
  StoreOk w11 w9.heap.size 0 [(.int .i64 x20_0), (.slice s20_1.a s20_1.n s20_1.c), (.slice s20_2.a s20_2.n s20_2.c)] 3 ∧ Let (put w11 w9.heap.size 0 [(.int .i64 x20_0), (.slice s20_1.a s20_1.n s20_1.c), (.slice s20_2.a s20_2.n s20_2.c)]) fun w12 => 
  ∃ s22 : Sl, World.cell? w12 ⟨w9.heap.size, (0 + 2), none⟩ = some (.slice s22.a s22.n s22.c) ∧ Join [] (fun (w13 : World) => J_6 w13) (fun J_7 =>
  LoopV [(24, .int .i64)] (fun K => K (0 : Int) w12) (fun N_4 => fun (x24 : Int) (w14 : World) =>
  cond (decide (x24 < ((s22.n : Nat) : Int))) (
  Join [] (fun (w15 : World) => N_4 (IntKind.wrap .i64 (x24 + (1 : Int))) w15) (fun J_8 =>
  ∃ p26 : Pt, s22.a = some ⟨p26.b, p26.o, none⟩ ∧ 0 ≤ x24 ∧ x24 < ((s22.n : Nat) : Int) ∧ ∃ b27_0 : Bool, ∃ x27_1 : Int, ∃ s27_2 : Sl, rd w14 p26.b (p26.o + Int.toNat x24 * 3) [(.bool b27_0), (.int .i64 x27_1), (.slice s27_2.a s27_2.n s27_2.c)] ∧ Let (w14.alloc (.cells (zc Try.prog 96) 96)) fun w16 => 
  StoreOk w16 w14.heap.size 0 [(.bool b27_0), (.int .i64 x27_1), (.slice s27_2.a s27_2.n s27_2.c)] 3 ∧ Let (put w16 w14.heap.size 0 [(.bool b27_0), (.int .i64 x27_1), (.slice s27_2.a s27_2.n s27_2.c)]) fun w17 => 
  ∃ x31 : Int, World.cell? w17 ⟨w14.heap.size, ((0 + 1) + 0), none⟩ = some (.int .i64 x31) ∧ ∃ p32 : Pt, s12.a = some ⟨p32.b, p32.o, none⟩ ∧ 0 ≤ x31 ∧ x31 < ((s12.n : Nat) : Int) ∧ ∃ x33 : Int, World.cell? w17 ⟨p32.b, (p32.o + Int.toNat x31 * 1), none⟩ = some (.int .i64 x33) ∧ ∃ b35 : Bool, World.cell? w17 ⟨w14.heap.size, (0 + 0), none⟩ = some (.bool b35) ∧ Join [(9, .int .i64)] (fun (x9 : Int) (w18 : World) => Let w18.drew fun w19 =>
  ∃ x41 : Int, World.cell? w19 ⟨w9.heap.size, ((0 + 0) + 0), none⟩ = some (.int .i64 x41) ∧ ∃ x45 : Int, World.cell? w19 ⟨w9.heap.size, ((0 + 0) + 0), none⟩ = some (.int .i64 x45) ∧ ∃ p46 : Pt, s12.a = some ⟨p46.b, p46.o, none⟩ ∧ 0 ≤ x45 ∧ x45 < ((s12.n : Nat) : Int) ∧ ∃ x47 : Int, World.cell? w19 ⟨p46.b, (p46.o + Int.toNat x45 * 1), none⟩ = some (.int .i64 x47) ∧ ∃ p50 : Pt, s12.a = some ⟨p50.b, p50.o, none⟩ ∧ 0 ≤ x41 ∧ x41 < ((s12.n : Nat) : Int) ∧ StoreOk w19 p50.b (p50.o + Int.toNat x41 * 1) [(.int .i64 (if x9 > x47 then x9 else x47))] 1 ∧ Let (put w19 p50.b (p50.o + Int.toNat x41 * 1) [(.int .i64 (if x9 > x47 then x9 else x47))]) fun w20 => 
  J_8 w20) (fun J_9 =>
  cond b35 (
  J_9 (IntKind.wrap .i64 (x33 + (1 : Int))) w17) (
  J_9 x33 w17)))) (
  J_7 w14))))) (
  J_5 w9))))) (
  J_3 w6)))
theorem eq38 (s0 : Sl) (R : Value → World → Prop) (w : World) : funV Try.prog Try.f38 An38 [(.slice s0.a s0.n s0.c)] R w = S38 s0 R w := by kernel_rfl
theorem call38 (s0 : Sl) {R : Value → World → Prop} {w : World} (h : S38 s0 R w) : Calls Try.prog 38 [(.slice s0.a s0.n s0.c)].toArray w fun e w' => ∃ v, e = .returned v ∧ R v w' :=
  funV_calls mixed Try.func38 (an := An38) (by rw [eq38]; exact h)

/-- F45: cubeb/cubebref03.Model -/
def An45 : An := (.sq .lf (.sq .lf (.sq .lf (.sq (.sq .lf (.cd (.sq .lf .lf) .lf)) (.sq (.sq .lf (.bk [] (.lp [(24, .int .i64)] (.sq .lf (.sq (.cd .lf .lf) (.sq (.bk [] (.sq .lf (.sq .lf (.sq (.sq .lf (.bk [(10, .slice)] (.lp [(10, .slice), (29, .int .i64)] (.sq .lf (.sq (.cd .lf .lf) (.sq (.bk [(10, .slice)] (.sq .lf (.sq .lf (.cj [(10, .slice)] .lf .lf)))) .lf)))))) .lf)))) .lf)))))) (.sq .lf .lf))))))
def S45 (s0 : Sl) (s1 : Sl) (R : Value → World → Prop) (w : World) : Prop :=
  Let (w.alloc (.cells (zc Try.prog 43) 43)) fun w1 => 
  Calls Try.prog 38 [(.slice s0.a s0.n s0.c)].toArray w1 (fun e w2 => ∃ s15_0 : Sl, ∃ x15_1 : Int, e = .returned (.tuple [(.slice s15_0.a s15_0.n s15_0.c), (.int .i64 x15_1)].toArray) ∧
  Calls Try.prog 69 [(.slice s1.a s1.n s1.c)].toArray w2 (fun e_2 w3 => ∃ cs19 : List Value, cs19.length = 252 ∧ e_2 = .returned (.agg cs19.toArray) ∧
  Let (w3.alloc (.cells (zc Try.prog 43) 43)) fun w4 => 
  StoreOk w4 w3.heap.size 0 cs19 252 ∧ Let (put w4 w3.heap.size 0 cs19) fun w5 => 
  cond (x15_1 != (0 : Int)) (
  StoreOk w5 w.heap.size 0 [(.bool false), (.bool false), (.bool false), (.bool false), (.bool false), (.bool false), (.bool false), (.bool false), (.bool false), (.bool false), (.bool false), (.bool false), (.bool false), (.bool false), (.bool false), (.bool false), (.bool false), (.bool false), (.bool false), (.bool false), (.bool false), (.bool false), (.bool false), (.bool false), (.bool false), (.bool false), (.bool false), (.bool false), (.bool false), (.bool false), (.bool false), (.bool false), (.bool false), (.bool false), (.bool false), (.bool false), (.bool false), (.bool false), (.bool false), (.bool false), (.bool false), (.bool false), (.bool false), (.bool false), (.bool false), (.bool false), (.bool false), (.bool false), (.bool false), (.bool false), (.bool false), (.bool false), (.bool false), (.bool false), (.bool false), (.bool false), (.bool false), (.bool false), (.bool false), (.bool false), (.bool false), (.bool false), (.bool false), (.bool false), (.bool false), (.bool false), (.bool false), (.bool false), (.bool false), (.bool false), (.bool false), (.bool false), (.bool false), (.bool false), (.bool false), (.bool false), (.bool false), (.bool false), (.bool false), (.bool false), (.bool false), (.bool false), (.bool false), (.bool false), (.bool false), (.bool false), (.bool false), (.bool false), (.bool false), (.bool false), (.bool false), (.bool false), (.bool false), (.bool false), (.bool false), (.bool false), (.bool false), (.bool false), (.bool false), (.bool false), (.bool false), (.bool false), (.bool false), (.bool false), (.bool false), (.bool false), (.bool false), (.bool false), (.bool false), (.bool false), (.bool false), (.bool false), (.bool false), (.bool false), (.bool false), (.bool false), (.bool false), (.bool false), (.bool false), (.bool false), (.bool false), (.bool false), (.bool false), (.bool false), (.bool false), (.bool false), (.bool false), (.bool false), (.bool false), (.bool false), (.bool false), (.bool false), (.bool false), (.bool false), (.bool false), (.bool false), (.bool false), (.bool false), (.bool false), (.bool false), (.bool false), (.bool false), (.bool false), (.bool false), (.bool false), (.bool false), (.bool false), (.bool false), (.bool false), (.bool false), (.bool false), (.bool false), (.bool false), (.bool false), (.bool false), (.bool false), (.bool false), (.bool false), (.bool false), (.bool false), (.bool false), (.bool false), (.bool false), (.bool false), (.bool false), (.bool false), (.bool false), (.bool false), (.bool false), (.bool false), (.bool false), (.bool false), (.bool false), (.bool false), (.bool false), (.bool false), (.bool false), (.bool false), (.bool false), (.bool false), (.bool false), (.bool false), (.bool false), (.bool false), (.bool false), (.bool false), (.bool false), (.bool false), (.bool false), (.bool false), (.bool false), (.bool false), (.bool false), (.bool false), (.bool false), (.bool false), (.bool false), (.bool false), (.bool false), (.bool false), (.bool false), (.bool false), (.bool false), (.bool false), (.bool false), (.bool false), (.bool false), (.bool false), (.bool false), (.bool false), (.bool false), (.bool false), (.bool false), (.bool false), (.bool false), (.bool false), (.bool false), (.bool false), (.bool false), (.bool false), (.bool false), (.bool false), (.bool false), (.bool false), (.bool false), (.bool false), (.bool false), (.bool false), (.bool false), (.bool false), (.bool false), (.bool false), (.bool false), (.bool false), (.bool false), (.bool false), (.bool false), (.bool false), (.bool false), (.bool false), (.bool false), (.bool false), (.bool false), (.bool false), (.bool false), (.bool false), (.bool false), (.bool false), (.bool false), (.bool false), (.bool false), (.bool false)] 252 ∧ Let (put w5 w.heap.size 0 [(.bool false), (.bool false), (.bool false), (.bool false), (.bool false), (.bool false), (.bool false), (.bool false), (.bool false), (.bool false), (.bool false), (.bool false), (.bool false), (.bool false), (.bool false), (.bool false), (.bool false), (.bool false), (.bool false), (.bool false), (.bool false), (.bool false), (.bool false), (.bool false), (.bool false), (.bool false), (.bool false), (.bool false), (.bool false), (.bool false), (.bool false), (.bool false), (.bool false), (.bool false), (.bool false), (.bool false), (.bool false), (.bool false), (.bool false), (.bool false), (.bool false), (.bool false), (.bool false), (.bool false), (.bool false), (.bool false), (.bool false), (.bool false), (.bool false), (.bool false), (.bool false), (.bool false), (.bool false), (.bool false), (.bool false), (.bool false), (.bool false), (.bool false), (.bool false), (.bool false), (.bool false), (.bool false), (.bool false), (.bool false), (.bool false), (.bool false), (.bool false), (.bool false), (.bool false), (.bool false), (.bool false), (.bool false), (.bool false), (.bool false), (.bool false), (.bool false), (.bool false), (.bool false), (.bool false), (.bool false), (.bool false), (.bool false), (.bool false), (.bool false), (.bool false), (.bool false), (.bool false), (.bool false), (.bool false), (.bool false), (.bool false), (.bool false), (.bool false), (.bool false), (.bool false), (.bool false), (.bool false), (.bool false), (.bool false), (.bool false), (.bool false), (.bool false), (.bool false), (.bool false), (.bool false), (.bool false), (.bool false), (.bool false), (.bool false), (.bool false), (.bool false), (.bool false), (.bool false), (.bool false), (.bool false), (.bool false), (.bool false), (.bool false), (.bool false), (.bool false), (.bool false), (.bool false), (.bool false), (.bool false), (.bool false), (.bool false), (.bool false), (.bool false), (.bool false), (.bool false), (.bool false), (.bool false), (.bool false), (.bool false), (.bool false), (.bool false), (.bool false), (.bool false), (.bool false), (.bool false), (.bool false), (.bool false), (.bool false), (.bool false), (.bool false), (.bool false), (.bool false), (.bool false), (.bool false), (.bool false), (.bool false), (.bool false), (.bool false), (.bool false), (.bool false), (.bool false), (.bool false), (.bool false), (.bool false), (.bool false), (.bool false), (.bool false), (.bool false), (.bool false), (.bool false), (.bool false), (.bool false), (.bool false), (.bool false), (.bool false), (.bool false), (.bool false), (.bool false), (.bool false), (.bool false), (.bool false), (.bool false), (.bool false), (.bool false), (.bool false), (.bool false), (.bool false), (.bool false), (.bool false), (.bool false), (.bool false), (.bool false), (.bool false), (.bool false), (.bool false), (.bool false), (.bool false), (.bool false), (.bool false), (.bool false), (.bool false), (.bool false), (.bool false), (.bool false), (.bool false), (.bool false), (.bool false), (.bool false), (.bool false), (.bool false), (.bool false), (.bool false), (.bool false), (.bool false), (.bool false), (.bool false), (.bool false), (.bool false), (.bool false), (.bool false), (.bool false), (.bool false), (.bool false), (.bool false), (.bool false), (.bool false), (.bool false), (.bool false), (.bool false), (.bool false), (.bool false), (.bool false), (.bool false), (.bool false), (.bool false), (.bool false), (.bool false), (.bool false), (.bool false), (.bool false), (.bool false), (.bool false), (.bool false), (.bool false), (.bool false), (.bool false), (.bool false), (.bool false), (.bool false), (.bool false), (.bool false), (.bool false), (.bool false), (.bool false), (.bool false), (.bool false), (.bool false)]) fun w6 => 
  ∃ csr4 : List Value, csr4.length = 252 ∧ rd w6 w.heap.size 0 csr4 ∧ R (.tuple [(.agg csr4.toArray), (.int .i64 x15_1)].toArray) w6) (
  Join [] (fun (w7 : World) => ∃ cs51 : List Value, cs51.length = 252 ∧ rd w7 w3.heap.size 0 cs51 ∧ StoreOk w7 w.heap.size 0 cs51 252 ∧ Let (put w7 w.heap.size 0 cs51) fun w8 => 
  ∃ csr4_2 : List Value, csr4_2.length = 252 ∧ rd w8 w.heap.size 0 csr4_2 ∧ R (.tuple [(.agg csr4_2.toArray), (.int .i64 (0 : Int))].toArray) w8) (fun J =>
  LoopV [(24, .int .i64)] (fun K => K (0 : Int) w5) (fun N => fun (x24 : Int) (w9 : World) =>
  cond (decide (x24 < (6 : Int))) (
  Join [] (fun (w10 : World) => N (IntKind.wrap .i64 (x24 + (1 : Int))) w10) (fun J_2 =>
  Join [(10, .slice)] (fun (s10 : Sl) (w11 : World) => ∃ cs47 : List Value, cs47.length = 252 ∧ rd w11 w3.heap.size 0 cs47 ∧ ∃ cs48 : List Value, cs48.length = 252 ∧ rd w11 w3.heap.size 0 cs48 ∧ Calls Try.prog 70 [(.slice s10.a s10.n s10.c), (.agg cs47.toArray), (.agg cs48.toArray)].toArray w11 (fun e_3 w12 => ∃ cs49 : List Value, cs49.length = 252 ∧ e_3 = .returned (.agg cs49.toArray) ∧
  StoreOk w12 w3.heap.size 0 cs49 252 ∧ Let (put w12 w3.heap.size 0 cs49) fun w13 => 
  J_2 w13)) (fun J_3 =>
  LoopV [(10, .slice), (29, .int .i64)] (fun K => K ⟨none, 0, 0⟩ (0 : Int) w9) (fun N_2 => fun (s10_2 : Sl) (x29 : Int) (w14 : World) =>
  cond (decide (x29 < ((s0.n : Nat) : Int))) (
  Join [(10, .slice)] (fun (s10_3 : Sl) (w15 : World) => N_2 ⟨s10_3.a, s10_3.n, s10_3.c⟩ (IntKind.wrap .i64 (x29 + (1 : Int))) w15) (fun J_4 =>
  ∃ p31 : Pt, s0.a = some ⟨p31.b, p31.o, none⟩ ∧ 0 ≤ x29 ∧ x29 < ((s0.n : Nat) : Int) ∧ ∃ x32_0 : Int, ∃ s32_1 : Sl, ∃ s32_2 : Sl, rd w14 p31.b (p31.o + Int.toNat x29 * 3) [(.int .i64 x32_0), (.slice s32_1.a s32_1.n s32_1.c), (.slice s32_2.a s32_2.n s32_2.c)] ∧ Let (w14.alloc (.cells (zc Try.prog 94) 94)) fun w16 => 
  StoreOk w16 w14.heap.size 0 [(.int .i64 x32_0), (.slice s32_1.a s32_1.n s32_1.c), (.slice s32_2.a s32_2.n s32_2.c)] 3 ∧ Let (put w16 w14.heap.size 0 [(.int .i64 x32_0), (.slice s32_1.a s32_1.n s32_1.c), (.slice s32_2.a s32_2.n s32_2.c)]) fun w17 => 
  ∃ x36 : Int, World.cell? w17 ⟨w14.heap.size, ((0 + 0) + 0), none⟩ = some (.int .i64 x36) ∧ ∃ p37 : Pt, s15_0.a = some ⟨p37.b, p37.o, none⟩ ∧ 0 ≤ x36 ∧ x36 < ((s15_0.n : Nat) : Int) ∧ ∃ x38 : Int, World.cell? w17 ⟨p37.b, (p37.o + Int.toNat x36 * 1), none⟩ = some (.int .i64 x38) ∧ Join [(10, .slice)] (fun (s10_4 : Sl) (w18 : World) => J_4 ⟨s10_4.a, s10_4.n, s10_4.c⟩ w18) (fun J_5 =>
  cond (x38 == x24) (
  ∃ x42_0 : Int, ∃ s42_1 : Sl, ∃ s42_2 : Sl, rd w17 w14.heap.size 0 [(.int .i64 x42_0), (.slice s42_1.a s42_1.n s42_1.c), (.slice s42_2.a s42_2.n s42_2.c)] ∧ ∃ (s43 : Sl) (w19 : World), Sem.run Try.prog (Instr.buildSlice 22 1 [(0, (.agg [(.int .i64 x42_0), (.slice s42_1.a s42_1.n s42_1.c), (.slice s42_2.a s42_2.n s42_2.c)].toArray))].toArray) w17 = .ok (.slice s43.a s43.n s43.c) w19 ∧
  ∃ (s44 : Sl) (w20 : World), Sem.run Try.prog (Builtin.append_ #[22, 22] 22 #[(.slice s10_2.a s10_2.n s10_2.c), (.slice s43.a s43.n s43.c)]) w19 = .ok (.slice s44.a s44.n s44.c) w20 ∧
  J_5 ⟨s44.a, s44.n, s44.c⟩ w20) (
  J_5 ⟨s10_2.a, s10_2.n, s10_2.c⟩ w17)))) (
  J_3 ⟨s10_2.a, s10_2.n, s10_2.c⟩ w14))))) (
  J w9))))))
theorem eq45 (s0 : Sl) (s1 : Sl) (R : Value → World → Prop) (w : World) : funV Try.prog Try.f45 An45 [(.slice s0.a s0.n s0.c), (.slice s1.a s1.n s1.c)] R w = S45 s0 s1 R w := by kernel_rfl
theorem call45 (s0 : Sl) (s1 : Sl) {R : Value → World → Prop} {w : World} (h : S45 s0 s1 R w) : Calls Try.prog 45 [(.slice s0.a s0.n s0.c), (.slice s1.a s1.n s1.c)].toArray w fun e w' => ∃ v, e = .returned v ∧ R v w' :=
  funV_calls mixed Try.func45 (an := An45) (by rw [eq45]; exact h)

/-- F46: cubeb/cubebref03.Holds -/
def An46 : An := (.sq .lf (.sq .lf .lf))
def S46 (cs0 : List Value) (x1_0 : Int) (s1_1 : Sl) (R : Value → World → Prop) (w : World) : Prop :=
  Let (w.alloc (.cells cs0.toArray 43)) fun w1 => 
  Let (w1.alloc (.cells [(.int .i64 x1_0), (.slice s1_1.a s1_1.n s1_1.c)].toArray 36)) fun w2 => 
  ∃ x6 : Int, World.cell? w2 ⟨w1.heap.size, (0 + 0), none⟩ = some (.int .i64 x6) ∧ ∃ s8 : Sl, World.cell? w2 ⟨w1.heap.size, (0 + 1), none⟩ = some (.slice s8.a s8.n s8.c) ∧ Calls Try.prog 94 [(.int .i64 x6), (.slice s8.a s8.n s8.c)].toArray w2 (fun e w3 => ∃ x9 : Int, e = .returned (.int .i64 x9) ∧
  0 ≤ x9 ∧ x9 < ((252 : Nat) : Int) ∧ ∃ b11 : Bool, World.cell? w3 ⟨w.heap.size, (0 + Int.toNat x9 * 1), none⟩ = some (.bool b11) ∧ R (.bool b11) w3)
theorem eq46 (cs0 : List Value) (x1_0 : Int) (s1_1 : Sl) (R : Value → World → Prop) (w : World) : funV Try.prog Try.f46 An46 [(.agg cs0.toArray), (.agg [(.int .i64 x1_0), (.slice s1_1.a s1_1.n s1_1.c)].toArray)] R w = S46 cs0 x1_0 s1_1 R w := by kernel_rfl
theorem call46 (cs0 : List Value) (x1_0 : Int) (s1_1 : Sl) {R : Value → World → Prop} {w : World} (h : S46 cs0 x1_0 s1_1 R w) : Calls Try.prog 46 [(.agg cs0.toArray), (.agg [(.int .i64 x1_0), (.slice s1_1.a s1_1.n s1_1.c)].toArray)].toArray w fun e w' => ∃ v, e = .returned v ∧ R v w' :=
  funV_calls mixed Try.func46 (an := An46) (by rw [eq46]; exact h)

/-- F26: cubeb/cubebref03.Founded -/
def An26 : An := (.sq .lf (.sq .lf (.sq .lf (.bk [] (.lp [] (.bk [] (.sq .lf (.sq .lf (.sq (.sq .lf (.cd (.sq (.sq .lf (.bk [] (.lp [(26, .int .i64)] (.sq .lf (.sq (.cd .lf .lf) (.sq (.bk [] (.sq .lf (.rj [] []))) .lf)))))) (.sq (.dr [0, 1, 2, 3] [3] true none) .lf)) .lf)) .lf)))))))))
def S26 (s0 : Sl) (s1 : Sl) (R : Value → World → Prop) (w : World) : Prop :=
  Let (w.alloc (.cells (zc Try.prog 43) 43)) fun w1 => 
  Let (w1.alloc (.cells (zc Try.prog 43) 43)) fun w2 => 
  Calls Try.prog 69 [(.slice s1.a s1.n s1.c)].toArray w2 (fun e w3 => ∃ cs13 : List Value, cs13.length = 252 ∧ e = .returned (.agg cs13.toArray) ∧
  Let (w3.alloc (.cells (zc Try.prog 43) 43)) fun w4 => 
  StoreOk w4 w3.heap.size 0 cs13 252 ∧ Let (put w4 w3.heap.size 0 cs13) fun w5 => 
  Let (w5.alloc (.cells (zc Try.prog 43) 43)) fun w6 => 
  Join [] (fun (w7 : World) => ∃ csr4 : List Value, csr4.length = 252 ∧ rd w7 w.heap.size 0 csr4 ∧ ∃ csr5 : List Value, csr5.length = 252 ∧ rd w7 w1.heap.size 0 csr5 ∧ R (.tuple [(.agg csr4.toArray), (.agg csr5.toArray)].toArray) w7) (fun J =>
  LoopV [] (fun K => K w6) (fun N => fun (w8 : World) =>
  Join [] (fun (w9 : World) => N w9) (fun J_2 =>
  ∃ cs15 : List Value, cs15.length = 252 ∧ rd w8 w3.heap.size 0 cs15 ∧ ∃ cs16 : List Value, cs16.length = 252 ∧ rd w8 w5.heap.size 0 cs16 ∧ Calls Try.prog 70 [(.slice s0.a s0.n s0.c), (.agg cs15.toArray), (.agg cs16.toArray)].toArray w8 (fun e_2 w10 => ∃ cs17 : List Value, cs17.length = 252 ∧ e_2 = .returned (.agg cs17.toArray) ∧
  Let (w10.alloc (.cells (zc Try.prog 43) 43)) fun w11 => 
  StoreOk w11 w10.heap.size 0 cs17 252 ∧ Let (put w11 w10.heap.size 0 cs17) fun w12 => 
  ∃ cs19 : List Value, cs19.length = 252 ∧ rd w12 w3.heap.size 0 cs19 ∧ ∃ cs20 : List Value, cs20.length = 252 ∧ rd w12 w10.heap.size 0 cs20 ∧ Calls Try.prog 70 [(.slice s0.a s0.n s0.c), (.agg cs19.toArray), (.agg cs20.toArray)].toArray w12 (fun e_3 w13 => ∃ cs21 : List Value, cs21.length = 252 ∧ e_3 = .returned (.agg cs21.toArray) ∧
  Let (w13.alloc (.cells (zc Try.prog 43) 43)) fun w14 => 
  StoreOk w14 w13.heap.size 0 cs21 252 ∧ Let (put w14 w13.heap.size 0 cs21) fun w15 => 
  ∃ cs22 : List Value, cs22.length = 252 ∧ rd w15 w13.heap.size 0 cs22 ∧ ∃ cs23 : List Value, cs23.length = 252 ∧ rd w15 w5.heap.size 0 cs23 ∧ ∃ r24 : Bool, (∀ w, Sem.run Try.prog (aggEq .eql 43 (.agg cs22.toArray) (.agg cs23.toArray)) w = .ok (.bool r24) w) ∧ cond r24 (
  ∃ cs25 : List Value, cs25.length = 252 ∧ rd w15 w5.heap.size 0 cs25 ∧ Join [] (fun (w16 : World) => ∃ S1 : World → Prop, S1 w16.drew ∧ Let w16.drew fun w17 =>
  ∃ cs40 : List Value, cs40.length = 252 ∧ (∀ u, S1 u → rd u w5.heap.size 0 cs40) ∧ ∃ cs41 : List Value, cs41.length = 252 ∧ (∀ u, S1 u → rd u w10.heap.size 0 cs41) ∧ StoreOk w17 w.heap.size 0 cs40 252 ∧ Let (put w17 w.heap.size 0 cs40) fun w18 => 
  S1 w18 ∧ StoreOk w18 w1.heap.size 0 cs41 252 ∧ Let (put w18 w1.heap.size 0 cs41) fun w19 => 
  ∃ csr4_2 : List Value, csr4_2.length = 252 ∧ rd w19 w.heap.size 0 csr4_2 ∧ ∃ csr5_2 : List Value, csr5_2.length = 252 ∧ rd w19 w1.heap.size 0 csr5_2 ∧ R (.tuple [(.agg csr4_2.toArray), (.agg csr5_2.toArray)].toArray) w19) (fun J_3 =>
  LoopV [(26, .int .i64)] (fun K => K (0 : Int) w15) (fun N_2 => fun (x26 : Int) (w20 : World) =>
  cond (decide (x26 < (252 : Int))) (
  Join [] (fun (w21 : World) => N_2 (IntKind.wrap .i64 (x26 + (1 : Int))) w21) (fun J_4 =>
  0 ≤ x26 ∧ x26 < ((252 : Nat) : Int) ∧ ∃ b29 : Bool, (cs25 : List Value)[Int.toNat x26]? = some (.bool b29) ∧ Join [] (fun (w22 : World) => J_4 w22) (fun J_5 =>
  0 ≤ x26 ∧ x26 < ((252 : Nat) : Int) ∧ ∃ b33 : Bool, World.cell? w20 ⟨w10.heap.size, (0 + Int.toNat x26 * 1), none⟩ = some (.bool b33) ∧ cond b33 (0 ≤ x26 ∧ x26 < ((252 : Nat) : Int) ∧ StoreOk w20 w10.heap.size (0 + Int.toNat x26 * 1) [(.bool (!b29))] 1 ∧ Let (put w20 w10.heap.size (0 + Int.toNat x26 * 1) [(.bool (!b29))]) fun w23 => 
  J_5 w23) (0 ≤ x26 ∧ x26 < ((252 : Nat) : Int) ∧ StoreOk w20 w10.heap.size (0 + Int.toNat x26 * 1) [(.bool false)] 1 ∧ Let (put w20 w10.heap.size (0 + Int.toNat x26 * 1) [(.bool false)]) fun w24 => 
  J_5 w24)))) (
  J_3 w20)))) (
  ∃ cs42 : List Value, cs42.length = 252 ∧ rd w15 w13.heap.size 0 cs42 ∧ StoreOk w15 w5.heap.size 0 cs42 252 ∧ Let (put w15 w5.heap.size 0 cs42) fun w25 => 
  J_2 w25)))))))
theorem eq26 (s0 : Sl) (s1 : Sl) (R : Value → World → Prop) (w : World) : funV Try.prog Try.f26 An26 [(.slice s0.a s0.n s0.c), (.slice s1.a s1.n s1.c)] R w = S26 s0 s1 R w := by kernel_rfl
theorem call26 (s0 : Sl) (s1 : Sl) {R : Value → World → Prop} {w : World} (h : S26 s0 s1 R w) : Calls Try.prog 26 [(.slice s0.a s0.n s0.c), (.slice s1.a s1.n s1.c)].toArray w fun e w' => ∃ v, e = .returned v ∧ R v w' :=
  funV_calls mixed Try.func26 (an := An26) (by rw [eq26]; exact h)

/-- F82: cubeb/cubebref03.Enough -/
def An82 : An := (.sq .lf (.sq .lf (.sq (.sq .lf (.bk [(9, .slice)] (.lp [(9, .slice), (14, .int .i64)] (.sq .lf (.sq (.cd .lf .lf) (.sq (.bk [(9, .slice)] (.sq .lf (.sq .lf (.cj [(9, .slice)] .lf .lf)))) .lf)))))) (.sq (.dr [0, 1, 3, 5, 6, 7, 8, 2, 4, 9, 10, 11] [9] true none) .lf))))
def S82 (s0 : Sl) (s1 : Sl) (x2 : Int) (x3_0 : Int) (s3_1 : Sl) (R : Value → World → Prop) (w : World) : Prop :=
  Let (w.alloc (.cells [(.int .i64 x3_0), (.slice s3_1.a s3_1.n s3_1.c)].toArray 36)) fun w1 => 
  Join [(9, .slice)] (fun (s9 : Sl) (w2 : World) => ∃ S1 : World → Prop, S1 w2.drew ∧ Let w2.drew fun w3 =>
  ∃ x35 : Int, (∀ u, S1 u → World.cell? u ⟨w.heap.size, (0 + 0), none⟩ = some (.int .i64 x35)) ∧ ∃ s37 : Sl, (∀ u, S1 u → World.cell? u ⟨w.heap.size, (0 + 1), none⟩ = some (.slice s37.a s37.n s37.c)) ∧ Calls Try.prog 69 [(.slice s9.a s9.n s9.c)].toArray w3 (fun e w4 => ∃ cs31 : List Value, cs31.length = 252 ∧ e = .returned (.agg cs31.toArray) ∧
  S1 w4 ∧ Calls Try.prog 70 [(.slice s0.a s0.n s0.c), (.agg cs31.toArray), (.agg [(.bool false), (.bool false), (.bool false), (.bool false), (.bool false), (.bool false), (.bool false), (.bool false), (.bool false), (.bool false), (.bool false), (.bool false), (.bool false), (.bool false), (.bool false), (.bool false), (.bool false), (.bool false), (.bool false), (.bool false), (.bool false), (.bool false), (.bool false), (.bool false), (.bool false), (.bool false), (.bool false), (.bool false), (.bool false), (.bool false), (.bool false), (.bool false), (.bool false), (.bool false), (.bool false), (.bool false), (.bool false), (.bool false), (.bool false), (.bool false), (.bool false), (.bool false), (.bool false), (.bool false), (.bool false), (.bool false), (.bool false), (.bool false), (.bool false), (.bool false), (.bool false), (.bool false), (.bool false), (.bool false), (.bool false), (.bool false), (.bool false), (.bool false), (.bool false), (.bool false), (.bool false), (.bool false), (.bool false), (.bool false), (.bool false), (.bool false), (.bool false), (.bool false), (.bool false), (.bool false), (.bool false), (.bool false), (.bool false), (.bool false), (.bool false), (.bool false), (.bool false), (.bool false), (.bool false), (.bool false), (.bool false), (.bool false), (.bool false), (.bool false), (.bool false), (.bool false), (.bool false), (.bool false), (.bool false), (.bool false), (.bool false), (.bool false), (.bool false), (.bool false), (.bool false), (.bool false), (.bool false), (.bool false), (.bool false), (.bool false), (.bool false), (.bool false), (.bool false), (.bool false), (.bool false), (.bool false), (.bool false), (.bool false), (.bool false), (.bool false), (.bool false), (.bool false), (.bool false), (.bool false), (.bool false), (.bool false), (.bool false), (.bool false), (.bool false), (.bool false), (.bool false), (.bool false), (.bool false), (.bool false), (.bool false), (.bool false), (.bool false), (.bool false), (.bool false), (.bool false), (.bool false), (.bool false), (.bool false), (.bool false), (.bool false), (.bool false), (.bool false), (.bool false), (.bool false), (.bool false), (.bool false), (.bool false), (.bool false), (.bool false), (.bool false), (.bool false), (.bool false), (.bool false), (.bool false), (.bool false), (.bool false), (.bool false), (.bool false), (.bool false), (.bool false), (.bool false), (.bool false), (.bool false), (.bool false), (.bool false), (.bool false), (.bool false), (.bool false), (.bool false), (.bool false), (.bool false), (.bool false), (.bool false), (.bool false), (.bool false), (.bool false), (.bool false), (.bool false), (.bool false), (.bool false), (.bool false), (.bool false), (.bool false), (.bool false), (.bool false), (.bool false), (.bool false), (.bool false), (.bool false), (.bool false), (.bool false), (.bool false), (.bool false), (.bool false), (.bool false), (.bool false), (.bool false), (.bool false), (.bool false), (.bool false), (.bool false), (.bool false), (.bool false), (.bool false), (.bool false), (.bool false), (.bool false), (.bool false), (.bool false), (.bool false), (.bool false), (.bool false), (.bool false), (.bool false), (.bool false), (.bool false), (.bool false), (.bool false), (.bool false), (.bool false), (.bool false), (.bool false), (.bool false), (.bool false), (.bool false), (.bool false), (.bool false), (.bool false), (.bool false), (.bool false), (.bool false), (.bool false), (.bool false), (.bool false), (.bool false), (.bool false), (.bool false), (.bool false), (.bool false), (.bool false), (.bool false), (.bool false), (.bool false), (.bool false), (.bool false), (.bool false), (.bool false), (.bool false), (.bool false), (.bool false), (.bool false), (.bool false), (.bool false), (.bool false), (.bool false), (.bool false), (.bool false)].toArray)].toArray w4 (fun e_2 w5 => ∃ cs33 : List Value, cs33.length = 252 ∧ e_2 = .returned (.agg cs33.toArray) ∧
  S1 w5 ∧ Calls Try.prog 94 [(.int .i64 x35), (.slice s37.a s37.n s37.c)].toArray w5 (fun e_3 w6 => ∃ x38 : Int, e_3 = .returned (.int .i64 x38) ∧
  0 ≤ x38 ∧ x38 < ((252 : Nat) : Int) ∧ ∃ b39 : Bool, (cs33 : List Value)[Int.toNat x38]? = some (.bool b39) ∧ R (.bool b39) w6)))) (fun J =>
  LoopV [(9, .slice), (14, .int .i64)] (fun K => K ⟨none, 0, 0⟩ (0 : Int) w1) (fun N => fun (s9_2 : Sl) (x14 : Int) (w7 : World) =>
  cond (decide (x14 < ((s1.n : Nat) : Int))) (
  Join [(9, .slice)] (fun (s9_3 : Sl) (w8 : World) => N ⟨s9_3.a, s9_3.n, s9_3.c⟩ (IntKind.wrap .i64 (x14 + (1 : Int))) w8) (fun J_2 =>
  ∃ p17 : Pt, s1.a = some ⟨p17.b, p17.o, none⟩ ∧ 0 ≤ x14 ∧ x14 < ((s1.n : Nat) : Int) ∧ ∃ x18_0 : Int, ∃ s18_1 : Sl, rd w7 p17.b (p17.o + Int.toNat x14 * 2) [(.int .i64 x18_0), (.slice s18_1.a s18_1.n s18_1.c)] ∧ Let (w7.alloc (.cells (zc Try.prog 36) 36)) fun w9 => 
  StoreOk w9 w7.heap.size 0 [(.int .i64 x18_0), (.slice s18_1.a s18_1.n s18_1.c)] 2 ∧ Let (put w9 w7.heap.size 0 [(.int .i64 x18_0), (.slice s18_1.a s18_1.n s18_1.c)]) fun w10 => 
  0 ≤ x14 ∧ Join [(9, .slice)] (fun (s9_4 : Sl) (w11 : World) => J_2 ⟨s9_4.a, s9_4.n, s9_4.c⟩ w11) (fun J_3 =>
  cond ((bitsI .and .i64 (Int.fdiv x2 (2 ^ (min (Int.toNat x14) (IntKind.bits .i64)))) (1 : Int)) == (1 : Int)) (
  ∃ x25_0 : Int, ∃ s25_1 : Sl, rd w10 w7.heap.size 0 [(.int .i64 x25_0), (.slice s25_1.a s25_1.n s25_1.c)] ∧ ∃ (s26 : Sl) (w12 : World), Sem.run Try.prog (Instr.buildSlice 23 1 [(0, (.agg [(.int .i64 x25_0), (.slice s25_1.a s25_1.n s25_1.c)].toArray))].toArray) w10 = .ok (.slice s26.a s26.n s26.c) w12 ∧
  ∃ (s27 : Sl) (w13 : World), Sem.run Try.prog (Builtin.append_ #[23, 23] 23 #[(.slice s9_2.a s9_2.n s9_2.c), (.slice s26.a s26.n s26.c)]) w12 = .ok (.slice s27.a s27.n s27.c) w13 ∧
  J_3 ⟨s27.a, s27.n, s27.c⟩ w13) (
  J_3 ⟨s9_2.a, s9_2.n, s9_2.c⟩ w10)))) (
  J ⟨s9_2.a, s9_2.n, s9_2.c⟩ w7)))
theorem eq82 (s0 : Sl) (s1 : Sl) (x2 : Int) (x3_0 : Int) (s3_1 : Sl) (R : Value → World → Prop) (w : World) : funV Try.prog Try.f82 An82 [(.slice s0.a s0.n s0.c), (.slice s1.a s1.n s1.c), (.int .i64 x2), (.agg [(.int .i64 x3_0), (.slice s3_1.a s3_1.n s3_1.c)].toArray)] R w = S82 s0 s1 x2 x3_0 s3_1 R w := by kernel_rfl
theorem call82 (s0 : Sl) (s1 : Sl) (x2 : Int) (x3_0 : Int) (s3_1 : Sl) {R : Value → World → Prop} {w : World} (h : S82 s0 s1 x2 x3_0 s3_1 R w) : Calls Try.prog 82 [(.slice s0.a s0.n s0.c), (.slice s1.a s1.n s1.c), (.int .i64 x2), (.agg [(.int .i64 x3_0), (.slice s3_1.a s3_1.n s3_1.c)].toArray)].toArray w fun e w' => ∃ v, e = .returned v ∧ R v w' :=
  funV_calls mixed Try.func82 (an := An82) (by rw [eq82]; exact h)

/-- F33: cubeb/cubebref03.Sources -/
def An33 : An := (.sq .lf (.sq .lf (.sq (.sq (.dr [0, 1, 2, 3, 4, 5, 6, 7, 8] [] true none) (.cd (.sq .lf .lf) .lf)) (.sq (.sq .lf (.bk [(7, .slice)] (.lp [(7, .slice), (24, .int .i64)] (.sq .lf (.sq (.cd .lf .lf) (.sq (.bk [(7, .slice)] (.sq .lf (.sq .lf (.sq (.sq .lf (.bk [(9, .bool)] (.lp [(9, .bool), (29, .int .i64)] (.sq .lf (.sq (.cd .lf .lf) (.sq (.bk [(9, .bool)] (.sq .lf (.rj [] [(9, .bool)]))) .lf)))))) (.sq (.rj [] [(48, .bool)]) (.cj [(7, .slice)] .lf .lf)))))) .lf)))))) (.sq .lf .lf)))))
def S33 (s0 : Sl) (s1 : Sl) (x2_0 : Int) (s2_1 : Sl) (R : Value → World → Prop) (w : World) : Prop :=
  Let (w.alloc (.cells [(.int .i64 x2_0), (.slice s2_1.a s2_1.n s2_1.c)].toArray 36)) fun w1 => 
  ∃ S1 : World → Prop, S1 w1.drew ∧ Let w1.drew fun w2 =>
  0 ≤ ((s1.n : Nat) : Int) ∧ ∃ x18_0 : Int, ∃ s18_1 : Sl, (∀ u, S1 u → rd u w.heap.size 0 [(.int .i64 x18_0), (.slice s18_1.a s18_1.n s18_1.c)]) ∧ Calls Try.prog 82 [(.slice s0.a s0.n s0.c), (.slice s1.a s1.n s1.c), (.int .i64 (IntKind.wrap .i64 ((IntKind.wrap .i64 ((1 : Int) * 2 ^ (min (Int.toNat ((s1.n : Nat) : Int)) (IntKind.bits .i64)))) - (1 : Int)))), (.agg [(.int .i64 x18_0), (.slice s18_1.a s18_1.n s18_1.c)].toArray)].toArray w2 (fun e w3 => ∃ b19 : Bool, e = .returned (.bool b19) ∧
  S1 w3 ∧ cond (!b19) (
  R (.slice none 0 0) w3) (
  0 ≤ ((s1.n : Nat) : Int) ∧ Join [(7, .slice)] (fun (s7 : Sl) (w4 : World) => R (.slice s7.a s7.n s7.c) w4) (fun J =>
  LoopV [(7, .slice), (24, .int .i64)] (fun K => K ⟨none, 0, 0⟩ (0 : Int) w3) (fun N => fun (s7_2 : Sl) (x24 : Int) (w5 : World) =>
  cond (decide (x24 < (IntKind.wrap .i64 ((1 : Int) * 2 ^ (min (Int.toNat ((s1.n : Nat) : Int)) (IntKind.bits .i64)))))) (
  Join [(7, .slice)] (fun (s7_3 : Sl) (w6 : World) => N ⟨s7_3.a, s7_3.n, s7_3.c⟩ (IntKind.wrap .i64 (x24 + (1 : Int))) w6) (fun J_2 =>
  Join [(9, .bool)] (fun (b9 : Bool) (w7 : World) => Join [(48, .bool)] (fun (b48 : Bool) (w8 : World) => Join [(7, .slice)] (fun (s7_4 : Sl) (w9 : World) => J_2 ⟨s7_4.a, s7_4.n, s7_4.c⟩ w9) (fun J_3 =>
  cond b48 (
  ∃ (s51 : Sl) (w10 : World), Sem.run Try.prog (Instr.buildSlice 34 1 [(0, (.int .i64 x24))].toArray) w8 = .ok (.slice s51.a s51.n s51.c) w10 ∧
  ∃ (s52 : Sl) (w11 : World), Sem.run Try.prog (Builtin.append_ #[34, 34] 34 #[(.slice s7_2.a s7_2.n s7_2.c), (.slice s51.a s51.n s51.c)]) w10 = .ok (.slice s52.a s52.n s52.c) w11 ∧
  J_3 ⟨s52.a, s52.n, s52.c⟩ w11) (
  J_3 ⟨s7_2.a, s7_2.n, s7_2.c⟩ w8))) (fun J_4 =>
  cond b9 (∃ x46_0 : Int, ∃ s46_1 : Sl, rd w7 w.heap.size 0 [(.int .i64 x46_0), (.slice s46_1.a s46_1.n s46_1.c)] ∧ Calls Try.prog 82 [(.slice s0.a s0.n s0.c), (.slice s1.a s1.n s1.c), (.int .i64 x24), (.agg [(.int .i64 x46_0), (.slice s46_1.a s46_1.n s46_1.c)].toArray)].toArray w7 (fun e_2 w12 => ∃ b47 : Bool, e_2 = .returned (.bool b47) ∧
  J_4 b47 w12)) (J_4 false w7))) (fun J_5 =>
  LoopV [(9, .bool), (29, .int .i64)] (fun K => K true (0 : Int) w5) (fun N_2 => fun (b9_2 : Bool) (x29 : Int) (w13 : World) =>
  cond (decide (x29 < ((s7_2.n : Nat) : Int))) (
  Join [(9, .bool)] (fun (b9_3 : Bool) (w14 : World) => N_2 b9_3 (IntKind.wrap .i64 (x29 + (1 : Int))) w14) (fun J_6 =>
  ∃ p31 : Pt, s7_2.a = some ⟨p31.b, p31.o, none⟩ ∧ 0 ≤ x29 ∧ x29 < ((s7_2.n : Nat) : Int) ∧ ∃ x32 : Int, World.cell? w13 ⟨p31.b, (p31.o + Int.toNat x29 * 1), none⟩ = some (.int .i64 x32) ∧ Join [(9, .bool)] (fun (b9_4 : Bool) (w15 : World) => J_6 b9_4 w15) (fun J_7 =>
  cond b9_2 (J_7 ((bitsI .andNot .i64 x32 x24) != (0 : Int)) w13) (J_7 false w13)))) (
  J_5 b9_2 w13))))) (
  J ⟨s7_2.a, s7_2.n, s7_2.c⟩ w5)))))
theorem eq33 (s0 : Sl) (s1 : Sl) (x2_0 : Int) (s2_1 : Sl) (R : Value → World → Prop) (w : World) : funV Try.prog Try.f33 An33 [(.slice s0.a s0.n s0.c), (.slice s1.a s1.n s1.c), (.agg [(.int .i64 x2_0), (.slice s2_1.a s2_1.n s2_1.c)].toArray)] R w = S33 s0 s1 x2_0 s2_1 R w := by kernel_rfl
theorem call33 (s0 : Sl) (s1 : Sl) (x2_0 : Int) (s2_1 : Sl) {R : Value → World → Prop} {w : World} (h : S33 s0 s1 x2_0 s2_1 R w) : Calls Try.prog 33 [(.slice s0.a s0.n s0.c), (.slice s1.a s1.n s1.c), (.agg [(.int .i64 x2_0), (.slice s2_1.a s2_1.n s2_1.c)].toArray)].toArray w fun e w' => ∃ v, e = .returned v ∧ R v w' :=
  funV_calls mixed Try.func33 (an := An33) (by rw [eq33]; exact h)

/-- F41: cubeb/cubebref03.Needed -/
def An41 : An := (.sq .lf (.sq .lf (.sq .lf (.sq (.sq .lf (.bk [] (.lp [(15, .int .i64)] (.sq .lf (.sq (.cd .lf .lf) (.sq (.bk [] (.sq .lf (.bk [] (.lp [(19, .int .i64)] (.sq .lf (.sq (.cd .lf .lf) (.sq (.bk [] (.sq .lf (.sq .lf (.bk [] (.lp [(26, .int .i64)] (.sq .lf (.sq (.cd .lf .lf) (.sq (.bk [] (.sq .lf (.dr [0, 1, 2, 3, 4, 5, 6, 7, 8, 9, 10, 11, 12, 13, 14, 15, 16] [] false (some [])))) .lf)))))))) .lf))))))) .lf)))))) (.sq .lf (.sq (.sq .lf (.bk [(10, .slice)] (.lp [(10, .slice), (51, .int .i64)] (.sq .lf (.sq (.cd .lf .lf) (.sq (.bk [(10, .slice)] (.sq .lf (.sq .lf (.cj [(10, .slice)] .lf .lf)))) .lf)))))) (.sq .lf .lf)))))))
def S41 (s0 : Sl) (x1 : Int) (R : Value → World → Prop) (w : World) : Prop :=
  Let (w.alloc (.cells (zc Try.prog 143) 143)) fun w1 => 
  0 ≤ x1 ∧ x1 < ((6 : Nat) : Int) ∧ StoreOk w1 w.heap.size (0 + Int.toNat x1 * 1) [(.bool true)] 1 ∧ Let (put w1 w.heap.size (0 + Int.toNat x1 * 1) [(.bool true)]) fun w2 => 
  Join [] (fun (w3 : World) => Join [(10, .slice)] (fun (s10 : Sl) (w4 : World) => R (.slice s10.a s10.n s10.c) w4) (fun J =>
  LoopV [(10, .slice), (51, .int .i64)] (fun K => K ⟨none, 0, 0⟩ (0 : Int) w3) (fun N => fun (s10_2 : Sl) (x51 : Int) (w5 : World) =>
  cond (decide (x51 < ((s0.n : Nat) : Int))) (
  Join [(10, .slice)] (fun (s10_3 : Sl) (w6 : World) => N ⟨s10_3.a, s10_3.n, s10_3.c⟩ (IntKind.wrap .i64 (x51 + (1 : Int))) w6) (fun J_2 =>
  ∃ p53 : Pt, s0.a = some ⟨p53.b, p53.o, none⟩ ∧ 0 ≤ x51 ∧ x51 < ((s0.n : Nat) : Int) ∧ ∃ x54_0 : Int, ∃ s54_1 : Sl, ∃ s54_2 : Sl, rd w5 p53.b (p53.o + Int.toNat x51 * 3) [(.int .i64 x54_0), (.slice s54_1.a s54_1.n s54_1.c), (.slice s54_2.a s54_2.n s54_2.c)] ∧ Let (w5.alloc (.cells (zc Try.prog 94) 94)) fun w7 => 
  StoreOk w7 w5.heap.size 0 [(.int .i64 x54_0), (.slice s54_1.a s54_1.n s54_1.c), (.slice s54_2.a s54_2.n s54_2.c)] 3 ∧ Let (put w7 w5.heap.size 0 [(.int .i64 x54_0), (.slice s54_1.a s54_1.n s54_1.c), (.slice s54_2.a s54_2.n s54_2.c)]) fun w8 => 
  ∃ x57 : Int, World.cell? w8 ⟨w5.heap.size, ((0 + 0) + 0), none⟩ = some (.int .i64 x57) ∧ 0 ≤ x57 ∧ x57 < ((6 : Nat) : Int) ∧ ∃ b59 : Bool, World.cell? w8 ⟨w.heap.size, (0 + Int.toNat x57 * 1), none⟩ = some (.bool b59) ∧ Join [(10, .slice)] (fun (s10_4 : Sl) (w9 : World) => J_2 ⟨s10_4.a, s10_4.n, s10_4.c⟩ w9) (fun J_3 =>
  cond b59 (
  ∃ x61_0 : Int, ∃ s61_1 : Sl, ∃ s61_2 : Sl, rd w8 w5.heap.size 0 [(.int .i64 x61_0), (.slice s61_1.a s61_1.n s61_1.c), (.slice s61_2.a s61_2.n s61_2.c)] ∧ ∃ (s62 : Sl) (w10 : World), Sem.run Try.prog (Instr.buildSlice 22 1 [(0, (.agg [(.int .i64 x61_0), (.slice s61_1.a s61_1.n s61_1.c), (.slice s61_2.a s61_2.n s61_2.c)].toArray))].toArray) w8 = .ok (.slice s62.a s62.n s62.c) w10 ∧
  ∃ (s63 : Sl) (w11 : World), Sem.run Try.prog (Builtin.append_ #[22, 22] 22 #[(.slice s10_2.a s10_2.n s10_2.c), (.slice s62.a s62.n s62.c)]) w10 = .ok (.slice s63.a s63.n s63.c) w11 ∧
  J_3 ⟨s63.a, s63.n, s63.c⟩ w11) (
  J_3 ⟨s10_2.a, s10_2.n, s10_2.c⟩ w8)))) (
  J ⟨s10_2.a, s10_2.n, s10_2.c⟩ w5)))) (fun J_4 =>
  LoopV [(15, .int .i64)] (fun K => K (0 : Int) w2) (fun N_2 => fun (x15 : Int) (w12 : World) =>
  cond (decide (x15 < (6 : Int))) (
  Join [] (fun (w13 : World) => N_2 (IntKind.wrap .i64 (x15 + (1 : Int))) w13) (fun J_5 =>
  Join [] (fun (w14 : World) => J_5 w14) (fun J_6 =>
  LoopV [(19, .int .i64)] (fun K => K (0 : Int) w12) (fun N_3 => fun (x19 : Int) (w15 : World) =>
  cond (decide (x19 < ((s0.n : Nat) : Int))) (
  Join [] (fun (w16 : World) => N_3 (IntKind.wrap .i64 (x19 + (1 : Int))) w16) (fun J_7 =>
  ∃ p21 : Pt, s0.a = some ⟨p21.b, p21.o, none⟩ ∧ 0 ≤ x19 ∧ x19 < ((s0.n : Nat) : Int) ∧ ∃ x22_0 : Int, ∃ s22_1 : Sl, ∃ s22_2 : Sl, rd w15 p21.b (p21.o + Int.toNat x19 * 3) [(.int .i64 x22_0), (.slice s22_1.a s22_1.n s22_1.c), (.slice s22_2.a s22_2.n s22_2.c)] ∧ Let (w15.alloc (.cells (zc Try.prog 94) 94)) fun w17 => 
  StoreOk w17 w15.heap.size 0 [(.int .i64 x22_0), (.slice s22_1.a s22_1.n s22_1.c), (.slice s22_2.a s22_2.n s22_2.c)] 3 ∧ Let (put w17 w15.heap.size 0 [(.int .i64 x22_0), (.slice s22_1.a s22_1.n s22_1.c), (.slice s22_2.a s22_2.n s22_2.c)]) fun w18 => 
  ∃ s24 : Sl, World.cell? w18 ⟨w15.heap.size, (0 + 2), none⟩ = some (.slice s24.a s24.n s24.c) ∧ Join [] (fun (w19 : World) => J_7 w19) (fun J_8 =>
  LoopV [(26, .int .i64)] (fun K => K (0 : Int) w18) (fun N_4 => fun (x26 : Int) (w20 : World) =>
  cond (decide (x26 < ((s24.n : Nat) : Int))) (
  Join [] (fun (w21 : World) => N_4 (IntKind.wrap .i64 (x26 + (1 : Int))) w21) (fun J_9 =>
  ∃ p28 : Pt, s24.a = some ⟨p28.b, p28.o, none⟩ ∧ 0 ≤ x26 ∧ x26 < ((s24.n : Nat) : Int) ∧ ∃ b29_0 : Bool, ∃ x29_1 : Int, ∃ s29_2 : Sl, rd w20 p28.b (p28.o + Int.toNat x26 * 3) [(.bool b29_0), (.int .i64 x29_1), (.slice s29_2.a s29_2.n s29_2.c)] ∧ Let (w20.alloc (.cells (zc Try.prog 96) 96)) fun w22 => 
  StoreOk w22 w20.heap.size 0 [(.bool b29_0), (.int .i64 x29_1), (.slice s29_2.a s29_2.n s29_2.c)] 3 ∧ Let (put w22 w20.heap.size 0 [(.bool b29_0), (.int .i64 x29_1), (.slice s29_2.a s29_2.n s29_2.c)]) fun w23 => 
  Join [] (fun (w24 : World) => J_9 w24) (fun J_10 =>
  Let w23.drew fun w25 =>
  ∃ x32 : Int, World.cell? w25 ⟨w20.heap.size, ((0 + 1) + 0), none⟩ = some (.int .i64 x32) ∧ ∃ x35 : Int, World.cell? w25 ⟨w20.heap.size, ((0 + 1) + 0), none⟩ = some (.int .i64 x35) ∧ 0 ≤ x35 ∧ x35 < ((6 : Nat) : Int) ∧ ∃ b37 : Bool, World.cell? w25 ⟨w.heap.size, (0 + Int.toNat x35 * 1), none⟩ = some (.bool b37) ∧ cond b37 (0 ≤ x32 ∧ x32 < ((6 : Nat) : Int) ∧ StoreOk w25 w.heap.size (0 + Int.toNat x32 * 1) [(.bool true)] 1 ∧ Let (put w25 w.heap.size (0 + Int.toNat x32 * 1) [(.bool true)]) fun w26 => 
  J_10 w26) (∃ x41 : Int, World.cell? w25 ⟨w15.heap.size, ((0 + 0) + 0), none⟩ = some (.int .i64 x41) ∧ 0 ≤ x41 ∧ x41 < ((6 : Nat) : Int) ∧ ∃ b43 : Bool, World.cell? w25 ⟨w.heap.size, (0 + Int.toNat x41 * 1), none⟩ = some (.bool b43) ∧ 0 ≤ x32 ∧ x32 < ((6 : Nat) : Int) ∧ StoreOk w25 w.heap.size (0 + Int.toNat x32 * 1) [(.bool b43)] 1 ∧ Let (put w25 w.heap.size (0 + Int.toNat x32 * 1) [(.bool b43)]) fun w27 => 
  J_10 w27)))) (
  J_8 w20))))) (
  J_6 w15))))) (
  J_4 w12)))
theorem eq41 (s0 : Sl) (x1 : Int) (R : Value → World → Prop) (w : World) : funV Try.prog Try.f41 An41 [(.slice s0.a s0.n s0.c), (.int .i64 x1)] R w = S41 s0 x1 R w := by kernel_rfl
theorem call41 (s0 : Sl) (x1 : Int) {R : Value → World → Prop} {w : World} (h : S41 s0 x1 R w) : Calls Try.prog 41 [(.slice s0.a s0.n s0.c), (.int .i64 x1)].toArray w fun e w' => ∃ v, e = .returned v ∧ R v w' :=
  funV_calls mixed Try.func41 (an := An41) (by rw [eq41]; exact h)

/-- F19: cubeb/cubebref03.Plain -/
def An19 : An := (.sq .lf (.sq (.sq .lf (.bk [] (.lp [(9, .int .i64)] (.sq .lf (.sq (.cd .lf .lf) (.sq (.bk [] (.sq .lf (.sq .lf (.bk [] (.lp [(16, .int .i64)] (.sq .lf (.sq (.cd .lf .lf) (.sq (.bk [] (.sq .lf (.sq .lf (.cd (.sq .lf .lf) .lf)))) .lf)))))))) .lf)))))) (.sq .lf .lf)))
def S19 (s0 : Sl) (R : Value → World → Prop) (w : World) : Prop :=
  Join [] (fun (w1 : World) => R (.bool true) w1) (fun J =>
  LoopV [(9, .int .i64)] (fun K => K (0 : Int) w) (fun N => fun (x9 : Int) (w2 : World) =>
  cond (decide (x9 < ((s0.n : Nat) : Int))) (
  Join [] (fun (w3 : World) => N (IntKind.wrap .i64 (x9 + (1 : Int))) w3) (fun J_2 =>
  ∃ p11 : Pt, s0.a = some ⟨p11.b, p11.o, none⟩ ∧ 0 ≤ x9 ∧ x9 < ((s0.n : Nat) : Int) ∧ ∃ x12_0 : Int, ∃ s12_1 : Sl, ∃ s12_2 : Sl, rd w2 p11.b (p11.o + Int.toNat x9 * 3) [(.int .i64 x12_0), (.slice s12_1.a s12_1.n s12_1.c), (.slice s12_2.a s12_2.n s12_2.c)] ∧ Let (w2.alloc (.cells (zc Try.prog 94) 94)) fun w4 => 
  StoreOk w4 w2.heap.size 0 [(.int .i64 x12_0), (.slice s12_1.a s12_1.n s12_1.c), (.slice s12_2.a s12_2.n s12_2.c)] 3 ∧ Let (put w4 w2.heap.size 0 [(.int .i64 x12_0), (.slice s12_1.a s12_1.n s12_1.c), (.slice s12_2.a s12_2.n s12_2.c)]) fun w5 => 
  ∃ s14 : Sl, World.cell? w5 ⟨w2.heap.size, (0 + 2), none⟩ = some (.slice s14.a s14.n s14.c) ∧ Join [] (fun (w6 : World) => J_2 w6) (fun J_3 =>
  LoopV [(16, .int .i64)] (fun K => K (0 : Int) w5) (fun N_2 => fun (x16 : Int) (w7 : World) =>
  cond (decide (x16 < ((s14.n : Nat) : Int))) (
  Join [] (fun (w8 : World) => N_2 (IntKind.wrap .i64 (x16 + (1 : Int))) w8) (fun J_4 =>
  ∃ p18 : Pt, s14.a = some ⟨p18.b, p18.o, none⟩ ∧ 0 ≤ x16 ∧ x16 < ((s14.n : Nat) : Int) ∧ ∃ b19_0 : Bool, ∃ x19_1 : Int, ∃ s19_2 : Sl, rd w7 p18.b (p18.o + Int.toNat x16 * 3) [(.bool b19_0), (.int .i64 x19_1), (.slice s19_2.a s19_2.n s19_2.c)] ∧ Let (w7.alloc (.cells (zc Try.prog 96) 96)) fun w9 => 
  StoreOk w9 w7.heap.size 0 [(.bool b19_0), (.int .i64 x19_1), (.slice s19_2.a s19_2.n s19_2.c)] 3 ∧ Let (put w9 w7.heap.size 0 [(.bool b19_0), (.int .i64 x19_1), (.slice s19_2.a s19_2.n s19_2.c)]) fun w10 => 
  ∃ b21 : Bool, World.cell? w10 ⟨w7.heap.size, (0 + 0), none⟩ = some (.bool b21) ∧ cond b21 (
  R (.bool false) w10) (
  J_4 w10))) (
  J_3 w7))))) (
  J w2)))
theorem eq19 (s0 : Sl) (R : Value → World → Prop) (w : World) : funV Try.prog Try.f19 An19 [(.slice s0.a s0.n s0.c)] R w = S19 s0 R w := by kernel_rfl
theorem call19 (s0 : Sl) {R : Value → World → Prop} {w : World} (h : S19 s0 R w) : Calls Try.prog 19 [(.slice s0.a s0.n s0.c)].toArray w fun e w' => ∃ v, e = .returned v ∧ R v w' :=
  funV_calls mixed Try.func19 (an := An19) (by rw [eq19]; exact h)

end Go.Proofs.Ytoljknamnkkgcaa
