/-
  Structs of ints as keys of maps; maps that hold true at a set. For every program.
-/
import Derived.Test.YtoljknamnkkgcaaVv
namespace Go.VC
open Go
set_option linter.unusedVariables false
variable {P : Program}
theorem checkKey_str {t n : Nat} (A : IntStr P t n) {xs : List Int} (hx : xs.length = n) (em : Bool) (d : Nat) (w : World) : (Instr.checkKey em (d + 2) t (ints xs)).run P w = .ok () w := by
  unfold ints
  simp only [Instr.checkKey, Sem.run_bind, under_run A.st, Result.andThen_ok]
  rw [← Array.forIn_toList, forIn_ok (P := P) (w := w)]
  · rfl
  · intro f hf
    have hall := A.flds
    rw [List.all_eq_true] at hall
    have h1 := hall f hf
    simp only [Bool.and_eq_true] at h1
    obtain ⟨hn, hu⟩ := h1
    have he : P.underlying f.type = some (.int .i64) := by split at hu <;> simp_all
    have hn : f.name ≠ "_" := by simpa using hn
    have ho : f.offset < xs.length := by
      have : f.offset ∈ List.range n := by rw [← A.offs]; exact List.mem_map.2 ⟨f, hf, rfl⟩
      simp at this; omega
    have hp := part_int he ho w
    simp [hn, hp, under_run he]
theorem KeyOk.str {κ : Type} [DecidableEq κ] {t n : Nat} (A : IntStr P t n) (hni : ∀ k, P.underlying t ≠ some (.int k)) (f : κ → List Int) (hf : ∀ a b, f a = f b → a = b) (hl : ∀ a, (f a).length = n) : KeyOk P t (fun k => ints (f k)) where
  inj := fun a b h => hf a b (by
    have h : (f a).map (Value.int .i64) = (f b).map (Value.int .i64) := by simpa [ints] using h
    exact List.map_inj_right (fun x y e => by injection e) |>.1 h)
  chk := fun em k w => checkKey_str A (hl k) em 9998 w
  bits := fun k => by
    show Instr.sameBits (9999 + 1) _ _ = true
    simp only [ints, Instr.sameBits, beq_self_eq_true, Bool.true_and, List.all_eq_true]
    intro p hp
    obtain ⟨i, hi, e⟩ := List.getElem_of_mem hp
    rw [List.getElem_zip] at e
    rw [← e]
    simp [Instr.sameBits]
  find := by
    intro k es w hes
    have hfe : (Instr.findKey t (ints (f k)) es).run P w = (Instr.findAsking t (ints (f k)) es).run P w := run_findKey_eq w (by simp [A.st]) _ _
    have inj : ∀ a b, ints (f a) = ints (f b) → a = b := fun a b h => hf a b (by
      have h : (f a).map (Value.int .i64) = (f b).map (Value.int .i64) := by simpa [ints] using h
      exact List.map_inj_right (fun x y e => by injection e) |>.1 h)
    have heq : ∀ a b w, (Op.equal t (ints (f a)) (ints (f b))).run P w = .ok (decide (a = b)) w := fun a b w => by
      show (Op.equalIn (9998 + 2) t _ _).run P w = _
      rw [equalIn_str A (hl a) (hl b) 9998 w]
      by_cases h : a = b
      · subst h; simp
      · have : ¬ f a = f b := fun e => h (hf _ _ e)
        simp [h, this]
    rcases findAsking_of (P := P) (kt := t) (ke := fun k => ints (f k)) inj heq k w es 0 hes with ⟨h1, h2⟩ | ⟨j, x, h1, h2, h3⟩
    · exact .inl ⟨by rw [hfe]; exact h1, h2⟩
    · exact .inr ⟨j, x, h1, h2, by rw [hfe]; simpa using h3⟩

/-! ### a map that holds true at just the members of a set -/
section
variable {κ : Type} [DecidableEq κ] {ke : κ → Value}
abbrev veB : Bool → Value := Value.bool
structure SetM (ke : κ → Value) (w : World) (b : Nat) (S : κ → Prop) : Prop where
  ex : ∃ (l : List (Ent κ Bool)) (c : Nat), Mp ke veB w b l c ∧ ∀ k, (mget l k = some true ∧ S k) ∨ (mget l k = none ∧ ¬ S k)
theorem SetM.fr {M : Nat → Prop} {w w' : World} {b : Nat} {S : κ → Prop} (m : SetM ke w b S) (f : Fr M w w') (hn : ¬ M b) : SetM ke w' b S := by
  obtain ⟨l, c, h1, h2⟩ := m.ex
  exact ⟨l, c, h1.fr f hn, h2⟩
theorem SetM.ext {w w' : World} {b : Nat} {S : κ → Prop} (m : SetM ke w b S) (f : Ext w w') : SetM ke w' b S := m.fr f fun h => h
theorem SetM.congr {w : World} {b : Nat} {S S' : κ → Prop} (m : SetM ke w b S) (h : ∀ k, S' k ↔ S k) : SetM ke w b S' := by
  obtain ⟨l, c, h1, h2⟩ := m.ex
  exact ⟨l, c, h1, fun k => by rcases h2 k with ⟨a, b⟩ | ⟨a, b⟩; exact .inl ⟨a, (h k).2 b⟩; exact .inr ⟨a, fun h3 => b ((h k).1 h3)⟩⟩
theorem SetM.lt {w : World} {b : Nat} {S : κ → Prop} (m : SetM ke w b S) : b < w.heap.size := by obtain ⟨l, c, h1, _⟩ := m.ex; exact h1.bound
theorem SetM.ne_blk {w : World} {b b' T : Nat} {l' : List Value} {S : κ → Prop} (m : SetM ke w b S) (h' : Blk w b' l' T) : b ≠ b' := by obtain ⟨l, c, h1, _⟩ := m.ex; exact h1.ne_blk h'
theorem SetM.made (w : World) : SetM ke (w.alloc (.map #[] 0)) w.heap.size fun _ => False := ⟨[], 0, Mp.made w, fun _ => .inr ⟨rfl, fun h => h⟩⟩
theorem SetM.put {t kt vt : TypeId} (K : KeyOk P kt ke) (ht : P.underlying t = some (.map kt vt)) {w : World} {b : Nat} {S : κ → Prop} (m : SetM ke w b S) (k : κ) :
    ∃ w', (Instr.mapUpdate t (.map (some b)) (ke k) (.bool true)).run P w = .ok () w' ∧ SetM ke w' b (fun a => S a ∨ a = k) ∧ Fr (fun z => z = b) w w' := by
  obtain ⟨l, c, h1, h2⟩ := m.ex
  obtain ⟨w', c', hrun, hmp, hf⟩ := put_run K ht h1 k true
  refine ⟨w', hrun, ⟨_, c', hmp, fun a => ?_⟩, hf⟩
  rw [mget_mput]
  by_cases e : a = k
  · rw [if_pos e]; exact .inl ⟨rfl, .inr e⟩
  · rw [if_neg e]
    rcases h2 a with ⟨p, q⟩ | ⟨p, q⟩
    · exact .inl ⟨p, .inl q⟩
    · exact .inr ⟨p, fun h => by rcases h with h | h; exact q h; exact e h⟩
/-- Is it a member? -/
theorem SetM.look {t kt vt : TypeId} (K : KeyOk P kt ke) (ht : P.underlying t = some (.map kt vt)) (hz : ∀ w, (zeroValue vt).run P w = .ok (.bool false) w) {w : World} {b : Nat} {S : κ → Prop} (m : SetM ke w b S) (k : κ) :
    ∃ r : Bool, (Instr.lookup t (.map (some b)) (ke k) false).run P w = .ok (.bool r) w ∧ (r = true ↔ S k) := by
  obtain ⟨l, c, h1, h2⟩ := m.ex
  have h := (look_run K ht h1 hz k).1
  rcases h2 k with ⟨a, b⟩ | ⟨a, b⟩
  · exact ⟨true, by rw [h, a]; rfl, by simp [b]⟩
  · exact ⟨false, by rw [h, a]; rfl, by simp [b]⟩
/-- The set, as a list of its members without repeats. -/
theorem SetM.list {w : World} {b : Nat} {S : κ → Prop} (m : SetM ke w b S) : ∃ (l : List (Ent κ Bool)) (c : Nat), Mp ke veB w b l c ∧ (l.map (·.1)).Nodup ∧ (∀ k, S k ↔ k ∈ l.map (·.1)) ∧ ∀ x ∈ l, x.2.1 = true := by
  obtain ⟨l, c, h1, h2⟩ := m.ex
  refine ⟨l, c, h1, h1.keys, fun k => ?_, fun x hx => ?_⟩
  · rcases h2 k with ⟨a, b⟩ | ⟨a, b⟩
    · obtain ⟨s, hs⟩ := mget_mem a
      exact ⟨fun _ => List.mem_map.2 ⟨_, hs, rfl⟩, fun _ => b⟩
    · refine ⟨fun h => absurd h b, fun h => ?_⟩
      obtain ⟨x, hx, e⟩ := List.mem_map.1 h
      exact absurd e (mget_none' a x hx)
  · have := mget_some h1.keys hx
    rcases h2 x.1 with ⟨a, b⟩ | ⟨a, b⟩
    · rw [this] at a; simpa using a
    · rw [this] at a; cases a
end
/-! A loop over the entries of a map, nothing being carried in variables. -/
section
variable {κ β : Type} {ke : κ → Value} {ve : β → Value}
theorem rangeM0 {T : Nat} {b c r : Nat} {l : List (Ent κ β)} {w0 : World} {J : World → Prop} {Bd : World → (World → Prop) → Prop}
    (Inv : List (Ent κ β) → World → Prop) (hm : Mp ke ve w0 b l c) (hi : Itr (κ := κ) (β := β) w0 r b c []) (h0 : Inv [] w0)
    (stab : ∀ vis w w', Inv vis w → Fr (fun y => y = r) w w' → Inv vis w')
    (step : ∀ vis x w, x ∈ l → x ∉ vis → vis.Nodup → (∀ y ∈ vis, y ∈ l) → vis.length < l.length → Inv vis w → Mp ke ve w b l c → r < w.heap.size → (Instr.entry (.pointer (some ⟨r, 0, none⟩))).run P w = .ok (.tuple #[ke x.1, ve x.2.1]) w →
      ∀ K : World → Prop, (∀ w', Inv (vis ++ [x]) w' → Fr (fun y => y ≠ r ∧ y ≠ b) w w' → K w') → Bd w K)
    (fin : ∀ vis w, (∀ x ∈ l, x ∈ vis) → vis.Nodup → (∀ y ∈ vis, y ∈ l) → Inv vis w → Mp ke ve w b l c → J w) :
    LoopV [] (fun K => K w0) (fun N => fun (w8 : World) => ∃ (d : Bool) (kv : List Value) (w9 : World), Sem.run P (Instr.next (.pointer (some ⟨r, 0, none⟩)) false T) w8 = .ok (.tuple (Value.bool d :: kv).toArray) w9 ∧
      cond d (Join [] (fun (w10 : World) => N w10) (fun J2 => Bd w9 J2)) (J w9)) := by
  refine LoopV.intro (fun n w => ∃ vis : List (Ent κ β), n = l.length - vis.length ∧ vis.Nodup ∧ (∀ x ∈ vis, x ∈ l) ∧ Itr (κ := κ) (β := β) w r b c vis ∧ Mp ke ve w b l c ∧ Inv vis w) l.length ⟨[], by simp, by simp, by simp, hi, hm, h0⟩ ?_
  rintro n w ⟨vis, rfl, hvn, hvl, hit, hmp, hinv⟩
  obtain ⟨d, kv, w6, hrun, hcase⟩ := next_run (P := P) (T := T) hmp hit hvl
  refine ⟨d, kv, w6, hrun, ?_⟩
  rcases hcase with ⟨rfl, hall, hx6⟩ | ⟨rfl, x, hxl, hxv, hit6, hmp6, hfr6, hent⟩
  · exact fin vis w6 hall hvn hvl (stab _ _ _ hinv (hx6.mono fun _ _ h => h.elim)) (hmp.ext hx6)
  · have hlt : vis.length + 1 ≤ l.length := by
      have := (List.nodup_cons.2 ⟨hxv, hvn⟩).length_le_of_subset (l₂ := l) (by intro y hy; rcases List.mem_cons.1 hy with rfl | hy; exact hxl; exact hvl y hy)
      simpa using this
    have hvn' : (vis ++ [x]).Nodup := by
      rw [List.nodup_append]; exact ⟨hvn, by simp, by intro a ha b hb e; simp at hb; subst hb; subst e; exact hxv ha⟩
    have hvl' : ∀ y ∈ vis ++ [x], y ∈ l := by intro y hy; rcases List.mem_append.1 hy with hy | hy; exact hvl y hy; simp at hy; subst hy; exact hxl
    refine Join.dir (step vis x w6 hxl hxv hvn hvl (by omega) (stab _ _ _ hinv hfr6) hmp6 hit6.bound hent _ fun w' hinv' hfr => ?_)
    exact ⟨l.length - (vis ++ [x]).length, by simp; omega, vis ++ [x], rfl, hvn', hvl', hit6.fr hfr fun h => h.1 rfl, hmp6.fr hfr fun h => h.2 rfl, hinv'⟩
end
end Go.VC
