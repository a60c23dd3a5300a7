/-
  Contracts: the atoms of a rule; are all its variables bound.
-/
import Derived.Test.YtoljknamnkkgcaaCi
namespace Go.Proofs.Ytoljknamnkkgcaa
open Go Go.VC
set_option maxHeartbeats 1000000
set_option maxRecDepth 100000

def Ru.atoms (r : Ru) : List Fa := r.head :: r.body.map (·.a)
def DR.atoms (r : DR) : List DF := r.head :: r.body.map (·.a)
theorem DR.atoms_p (r : DR) : r.atoms.map DF.p = r.p.atoms := by simp [DR.atoms, Ru.atoms, DR.p, DL.p]
theorem E169 : Elem Try.prog 169 48 2 32 := Elem.of (by kernel_rfl) (by kernel_rfl) (by decide)
theorem rdAtom {w : World} {q : Nat} {x : DL} {T : TypeId} (h : Blk w q (eL x) T) : rd w q (0 + 1) [.int .i64 x.a.rel, .slice x.a.sl.a x.a.sl.n x.a.sl.c] := h.rd_drop (o := 0 + 1) fun j y hy => by
  rcases j with _ | _ | j
  · simpa [eL] using hy
  · simpa [eL] using hy
  · simp at hy
theorem rdHead {w : World} {q : Nat} {x : DR} {T : TypeId} (h : Blk w q (eR x) T) : rd w q (0 + 0) [.int .i64 x.head.rel, .slice x.head.sl.a x.head.sl.n x.head.sl.c] := h.rd_drop (o := 0 + 0) fun j y hy => by
  rcases j with _ | _ | j
  · simpa [eR] using hy
  · simpa [eR] using hy
  · simp at hy
/-- The Head and the atoms of the Body. -/
theorem c104 {w : World} {r : DR} (hr : RulOk w r) (hb : r.body.length ≤ 1000) :
    Calls Try.prog 104 [.agg [.int .i64 r.head.rel, .slice r.head.sl.a r.head.sl.n r.head.sl.c, .slice r.bs.a r.bs.n r.bs.c].toArray].toArray w fun e w' => ∃ s : Sl, e = .returned (.slice s.a s.n s.c) ∧ Own 48 2 eF w.heap.size w' s r.atoms ∧ Ext w w' := by
  refine (call104 r.head.rel r.head.sl r.bs (R := fun v w' => ∃ s : Sl, v = (.slice s.a s.n s.c) ∧ Own 48 2 eF w.heap.size w' s r.atoms ∧ Ext w w') ?_).mono fun e w' ⟨v, he, s, hv, hx⟩ => ⟨s, by rw [he, hv], hx⟩
  refine Let.intro fun w1 e1 => ?_
  have b1 : Blk w1 w.heap.size (eR r) 52 := by rw [e1]; exact Blk.alloc w (eR r) 52
  have x1 : Ext w w1 := by rw [e1]; exact Ext.alloc ..
  have hbd := buildOne_run E169 (v := .agg [.int .i64 r.head.rel, .slice r.head.sl.a r.head.sl.n r.head.sl.c].toArray) (vs := eF r.head) rfl rfl (by omega) w1
  have x2 := Ext.alloc w1 (.cells (eF r.head).toArray 48)
  have ho := Own.one (T := 48) (size := 2) (enc := eF) w1 r.head rfl
  have x12 := x1.trans x2
  refine ⟨_, _, rdHead b1, ⟨some ⟨w1.heap.size, 0, none⟩, 1, 1⟩, _, hbd, r.bs, (b1.ext x2).cell 2, ?_⟩
  have hbn := hr.bd.len
  refine Join.dir (rangeSI (fun i (s : Sl) w4 => Own 48 2 eF w1.heap.size w4 s (r.head :: (r.body.take i).map (·.a)) ∧ w1.heap.size ≤ w4.heap.size ∧ Ext w w4) (by rw [hbn]; show r.body.length ≤ 9223372036854775807; omega) ⟨by simpa using ho, x2.size, x12⟩ ?_ ?_)
  · rintro i hi s w4 ⟨ho4, z4, x4⟩ K hK
    have hi : i < r.body.length := by omega
    refine loadL (hr.bd.ext x4) hi fun w7 b7 x7 => ⟨_, _, rdAtom b7, ?_⟩
    have x47 := x4.trans x7
    obtain ⟨s1, w8, hb8, s2, w9, hr9, ho9, hf9⟩ := appendOne E169 (ho4.ext x7) (x := (r.body[i]).a) (v := .agg (eF (r.body[i]).a).toArray) rfl eF_len eF_one (by omega) (by simp; omega) (by simp [maxLen]; omega) (by have := x7.size; omega) 169
    refine ⟨s1, w8, hb8, s2, w9, hr9, hK _ _ ⟨?_, by have := x7.size; have := hf9.size; omega, x47.newer hf9 fun y ⟨a, ha, e⟩ => by have := ((ho4.ext x7).base ha).1; have := x1.size; omega⟩⟩
    rw [List.take_succ_eq_append_getElem hi, List.map_append, ← List.cons_append]
    exact ho9
  · rintro s w4 ⟨ho4, z4, x4⟩
    rw [hbn, List.take_length] at ho4
    exact ⟨s, rfl, ho4.mono x1.size, x4⟩
theorem RulOk.atoms {w : World} {r : DR} (h : RulOk w r) : ∀ x ∈ r.atoms, Ints w x.sl x.args := fun x hx => by
  rcases List.mem_cons.1 hx with rfl | hx
  · exact h.hd
  · obtain ⟨b, hb, rfl⟩ := List.mem_map.1 hx
    exact h.bd.ok b hb
/-! ### variables that are bound -/
/-- All variables occur in a literal without Not. -/
def SafeP (r : Ru) : Prop := ∀ a ∈ r.atoms, ∀ x ∈ a.args, 0 ≤ x → ∃ b ∈ r.body, b.neg = false ∧ x ∈ b.a.args
theorem u188 : Try.prog.underlying 188 = some (.map 3 4) := by kernel_rfl
structure BndM (w : World) (b : Nat) (Q : Int → Prop) : Prop where
  ex : ∃ (l : List (Ent Int Bool)) (c : Nat), Mp (fun n : Int => Value.int .i64 n) veB w b l c ∧ ∀ v, (mget l v).getD false = true ↔ Q v
theorem BndM.ext {w w' : World} {b : Nat} {Q : Int → Prop} (m : BndM w b Q) (x : Ext w w') : BndM w' b Q := by
  obtain ⟨l, c, h1, h2⟩ := m.ex; exact ⟨l, c, h1.ext x, h2⟩
theorem BndM.congr {w : World} {b : Nat} {Q Q' : Int → Prop} (m : BndM w b Q) (h : ∀ v, Q v ↔ Q' v) : BndM w b Q' := by
  obtain ⟨l, c, h1, h2⟩ := m.ex; exact ⟨l, c, h1, fun v => (h2 v).trans (h v)⟩
theorem BndM.look {w : World} {b : Nat} {Q : Int → Prop} (m : BndM w b Q) (v : Int) : ∃ r : Bool, (Instr.lookup 188 (.map (some b)) (.int .i64 v) false).run Try.prog w = .ok (.bool r) w ∧ (r = true ↔ Q v) := by
  obtain ⟨l, c, h1, h2⟩ := m.ex
  refine ⟨(mget l v).getD false, ?_, h2 v⟩
  rw [(look_run K3 u188 h1 zero4 v).1]
  cases mget l v <;> rfl
theorem BndM.put {w : World} {b : Nat} {Q : Int → Prop} (m : BndM w b Q) (v : Int) (t : Bool) : ∃ w', (Instr.mapUpdate 188 (.map (some b)) (.int .i64 v) (.bool t)).run Try.prog w = .ok () w' ∧ BndM w' b (fun u => if u = v then t = true else Q u) ∧ Fr (fun y => y = b) w w' := by
  obtain ⟨l, c, h1, h2⟩ := m.ex
  obtain ⟨w', c', hr, hm, hf⟩ := put_run K3 u188 h1 v t
  refine ⟨w', hr, ⟨_, c', hm, fun u => ?_⟩, hf⟩
  rw [mget_mput]
  by_cases e : u = v
  · simp [e]
  · simp [e, h2]
theorem c103 {w : World} {r : DR} (hr : RulOk w r) (hb : r.body.length ≤ 1000) (ha : ∀ x ∈ r.atoms, x.args.length ≤ 1000) :
    Calls Try.prog 103 [.agg [.int .i64 r.head.rel, .slice r.head.sl.a r.head.sl.n r.head.sl.c, .slice r.bs.a r.bs.n r.bs.c].toArray].toArray w fun e w' => ∃ b : Bool, e = .returned (.bool b) ∧ (b = true ↔ SafeP r.p) ∧ Ext w w' := by
  refine (call103 r.head.rel r.head.sl r.bs (R := fun v w' => ∃ b : Bool, v = .bool b ∧ (b = true ↔ SafeP r.p) ∧ Ext w w') ?_).mono fun e w' ⟨v, he, b, hv, hx⟩ => ⟨b, by rw [he, hv], hx⟩
  refine Let.intro fun w1 e1 => ?_
  have b1 : Blk w1 w.heap.size (eR r) 52 := by rw [e1]; exact Blk.alloc w (eR r) 52
  have x1 : Ext w w1 := by rw [e1]; exact Ext.alloc ..
  refine Let.intro fun w2 e2 => ?_
  have m2 : BndM w2 w1.heap.size fun _ => False := by rw [e2]; exact ⟨[], 0, Mp.made w1, fun v => by simp [mget]⟩
  have x2 : Ext w1 w2 := by rw [e2]; exact Ext.alloc ..
  have b1 := b1.ext x2
  have x12 := x1.trans x2
  have hbn := hr.bd.len
  have l1 : w.heap.size < w1.heap.size := by rw [e1]; simp
  refine ⟨r.bs, b1.cell 2, ?_⟩
  let Qd : Int → Prop := fun v => ∃ b ∈ r.body, b.neg = false ∧ v ∈ b.a.args
  have hsafe : SafeP r.p ↔ ∀ x ∈ r.atoms, ∀ v ∈ x.args, 0 ≤ v → Qd v := by
    unfold SafeP
    rw [← DR.atoms_p]
    constructor
    · intro h x hx v hv h0
      obtain ⟨b, hb, h1, h2⟩ := h x.p (List.mem_map.2 ⟨x, hx, rfl⟩) v hv h0
      obtain ⟨b', hb', rfl⟩ := List.mem_map.1 hb
      exact ⟨b', hb', h1, h2⟩
    · intro h x hx v hv h0
      obtain ⟨x', hx', rfl⟩ := List.mem_map.1 hx
      obtain ⟨b, hb, h1, h2⟩ := h x' hx' v hv h0
      exact ⟨b.p, List.mem_map.2 ⟨b, hb, rfl⟩, h1, h2⟩
  refine ⟨fun w3 => BndM w3 w1.heap.size Qd ∧ Blk w3 w.heap.size (eR r) 52 ∧ Ext w w3, ?_, ?_⟩
  · rintro w3 ⟨m3, b3, x3⟩
    refine ⟨_, _, _, b3.rd, (c104 (hr.ext x3) hb).mono fun e w4 ⟨s, he, hso, x4⟩ => ⟨s, he, ?_⟩⟩
    have hs : NF w4 s r.atoms := ⟨hso.sli, (hr.ext (x3.trans x4)).atoms⟩
    have hn := hs.len
    have m4 := m3.ext x4
    have x34 := x3.trans x4
    have hlen : r.atoms.length ≤ 1001 := by simp [DR.atoms]; omega
    refine Join.dir (rangeI (fun i w6 => (∀ x ∈ r.atoms.take i, ∀ v ∈ x.args, 0 ≤ v → Qd v) ∧ Ext w4 w6) (by rw [hn]; show r.atoms.length ≤ 9223372036854775807; omega) ⟨by simp, Fr.refl _ _⟩ ?_ ?_)
    · rintro i hi w6 ⟨hok, x6⟩ K hK
      have hi : i < r.atoms.length := by omega
      refine loadF (hs.ext x6) hi (by kernel_rfl) fun w9 b9 x9 => ⟨_, b9.cell 1, ?_⟩
      have hint := ((hs.ok _ (List.getElem_mem hi)).ext x6).ext x9
      have hal := ha _ (List.getElem_mem hi)
      generalize hxi : r.atoms[i] = x at b9 hint hal
      have hxn := hint.len
      refine Join.dir (rangeI (fun j w11 => (∀ v ∈ x.args.take j, 0 ≤ v → Qd v) ∧ Ext w9 w11) (by rw [hxn]; show x.args.length ≤ 9223372036854775807; omega) ⟨by simp, Fr.refl _ _⟩ ?_ ?_)
      · rintro j hj w11 ⟨hok2, x11⟩ K2 hK2
        have hj : j < x.args.length := by omega
        obtain ⟨p, hp, a1, a2, hrd⟩ := Ints.at (hint.ext x11) hj
        refine ⟨p, hp, a1, a2, _, hrd, ?_⟩
        have x411 := (x6.trans x9).trans x11
        obtain ⟨t, hlk, ht⟩ := (m4.ext x411).look x.args[j]
        refine ⟨fun (b61 : Bool) w13 => (b61 = true ↔ 0 ≤ x.args[j] ∧ ¬ Qd x.args[j]) ∧ w13 = w11, ?_, ?_⟩
        · rintro b61 w13 ⟨hb61, rfl⟩
          refine cond_intro (fun g => ⟨false, rfl, ?_, x34.trans x411⟩) (fun g => hK2 _ ⟨fun v hv h0 => ?_, x11⟩)
          · have hg := hb61.1 g
            simp only [Bool.false_eq_true, false_iff]
            intro hsf
            exact hg.2 (hsafe.1 hsf x (by rw [← hxi]; exact List.getElem_mem hi) _ (List.getElem_mem hj) hg.1)
          · rw [List.take_succ_eq_append_getElem hj] at hv
            rcases List.mem_append.1 hv with hv | hv
            · exact hok2 v hv h0
            · simp only [List.mem_singleton] at hv
              subst hv
              refine Classical.byContradiction fun hq => ?_
              rw [hb61.2 ⟨h0, hq⟩] at g; cases g
        · refine cond_intro (fun g => ⟨t, hlk, ?_, rfl⟩) (fun g => ⟨?_, rfl⟩)
          · have g : 0 ≤ x.args[j] := by simpa using g
            cases t <;> simp_all
          · have g : ¬ 0 ≤ x.args[j] := by simpa using g
            simp [g]
      · rintro w10 ⟨hok2, x10⟩
        rw [hxn, List.take_length] at hok2
        refine hK _ ⟨fun y hy => ?_, (x6.trans x9).trans x10⟩
        rw [List.take_succ_eq_append_getElem hi, List.mem_append, List.mem_singleton, hxi] at hy
        rcases hy with hy | rfl
        · exact hok y hy
        · exact hok2
    · rintro w5 ⟨hok, x5⟩
      rw [hn, List.take_length] at hok
      exact ⟨true, rfl, by simp [hsafe.2 hok], x34.trans x5⟩
  · refine rangeI (fun i w14 => BndM w14 w1.heap.size (fun v => ∃ b ∈ r.body.take i, b.neg = false ∧ v ∈ b.a.args) ∧ Blk w14 w.heap.size (eR r) 52 ∧ Ext w w14) (by rw [hbn]; show r.body.length ≤ 9223372036854775807; omega) ⟨m2.congr fun v => by simp, b1, x12⟩ ?_ ?_
    · rintro i hi w14 ⟨m14, b14, x14⟩ K hK
      have hi : i < r.body.length := by omega
      refine loadL (hr.bd.ext x14) hi fun w17 b17 x17 => ⟨_, b17.cell 2, ?_⟩
      have hint := ((hr.bd.ok _ (List.getElem_mem hi)).ext x14).ext x17
      have hal := ha (r.body[i]).a (List.mem_cons_of_mem _ (List.mem_map.2 ⟨_, List.getElem_mem hi, rfl⟩))
      generalize hxi : r.body[i] = x at b17 hint hal
      have hxn := hint.len
      have l17 := b17.lt
      have hlm : w1.heap.size < w17.heap.size := by obtain ⟨l, c, h, _⟩ := (m14.ext x17).ex; exact h.bound
      have hq : w1.heap.size < w14.heap.size := by obtain ⟨l, c, h, _⟩ := m14.ex; exact h.bound
      refine Join.dir (rangeI (fun j w19 => BndM w19 w1.heap.size (fun v => (∃ b ∈ r.body.take i, b.neg = false ∧ v ∈ b.a.args) ∨ (x.neg = false ∧ v ∈ x.a.args.take j)) ∧ Fr (fun y => y = w1.heap.size) w17 w19) (by rw [hxn]; show x.a.args.length ≤ 9223372036854775807; omega) ⟨(m14.ext x17).congr fun v => by simp, Fr.refl _ _⟩ ?_ ?_)
      · rintro j hj w19 ⟨m19, f19⟩ K2 hK2
        have hj : j < x.a.args.length := by omega
        have x019 : Ext w w19 := (x14.trans x17).newer f19 fun y (hy : y = w1.heap.size) => by omega
        have hint19 : Ints w19 x.a.sl x.a.args := by
          have h0 := hr.bd.ok _ (List.getElem_mem hi)
          rw [hxi] at h0
          exact h0.ext x019
        obtain ⟨p, hp, a1, a2, hrd⟩ := Ints.at hint19 hj
        refine ⟨p, hp, a1, a2, _, hrd, Join.dir ?_⟩
        generalize hvj : x.a.args[j] = v
        obtain ⟨t, hlk, ht⟩ := m19.look v
        have hmem : ∀ u, u ∈ x.a.args.take (j + 1) ↔ u ∈ x.a.args.take j ∨ u = v := fun u => by rw [List.take_succ_eq_append_getElem hj, List.mem_append, List.mem_singleton, hvj]
        refine ⟨t, hlk, cond_intro (fun g => ?_) (fun g => ?_)⟩
        · obtain ⟨w22, hr22, m22, f22⟩ := m19.put v true
          refine ⟨w22, hr22, hK2 _ ⟨m22.congr fun u => ?_, f19.trans f22 fun _ _ h => h⟩⟩
          rw [hmem]
          by_cases e : u = v
          · subst e
            simp only [if_true, true_iff]
            rcases ht.1 g with h | ⟨h1, h2⟩
            · exact .inl h
            · exact .inr ⟨h1, .inl h2⟩
          · simp [e]
        · obtain ⟨w23, hr23, m23, f23⟩ := m19.put v (!x.neg)
          refine ⟨x.neg, (b17.fr f19 (by omega)).cell 0, w23, hr23, hK2 _ ⟨m23.congr fun u => ?_, f19.trans f23 fun _ _ h => h⟩⟩
          rw [hmem]
          by_cases e : u = v
          · subst e
            have hno : ¬ _ := fun h => by rw [ht.2 h] at g; cases g
            simp only [not_or] at hno
            simp only [if_true, Bool.not_eq_true']
            constructor
            · exact fun h => .inr ⟨h, .inr trivial⟩
            · rintro (h | ⟨h, _⟩)
              · exact absurd h hno.1
              · exact h
          · simp [e]
      · rintro w18 ⟨m18, f18⟩
        rw [hxn, List.take_length] at m18
        refine hK _ ⟨m18.congr fun v => ?_, (b14.ext x17).fr f18 (by omega), (x14.trans x17).newer f18 fun y (hy : y = w1.heap.size) => by omega⟩
        rw [List.take_succ_eq_append_getElem hi, hxi]
        constructor
        · rintro (⟨b, hb, h⟩ | ⟨h1, h2⟩)
          · exact ⟨b, List.mem_append_left _ hb, h⟩
          · exact ⟨x, by simp, h1, h2⟩
        · rintro ⟨b, hb, h⟩
          rcases List.mem_append.1 hb with hb | hb
          · exact .inl ⟨b, hb, h⟩
          · simp only [List.mem_singleton] at hb
            subst hb; exact .inr h
    · rintro w3 ⟨m3, b3, x3⟩
      rw [hbn, List.take_length] at m3
      exact ⟨m3, b3, x3⟩
end Go.Proofs.Ytoljknamnkkgcaa
