/-
  A loop over the entries of a map that stays as it is. For every program.
-/
import Derived.Test.YtoljknamnkkgcaaVu
namespace Go.VC
open Go
variable {P : Program}
section
variable {κ β : Type} {ke : κ → Value} {ve : β → Value}
theorem rangeM {t' T : Nat} {k : SK} {b c r : Nat} {l : List (Ent κ β)} {w0 : World} {s0 : k.T} {J : k.T → World → Prop} {Bd : k.T → World → (k.T → World → Prop) → Prop}
    (Inv : List (Ent κ β) → k.T → World → Prop) (hm : Mp ke ve w0 b l c) (hi : Itr (κ := κ) (β := β) w0 r b c []) (h0 : Inv [] s0 w0)
    (stab : ∀ vis s w w', Inv vis s w → Fr (fun y => y = r) w w' → Inv vis s w')
    (step : ∀ vis x s w, x ∈ l → x ∉ vis → vis.Nodup → (∀ y ∈ vis, y ∈ l) → vis.length < l.length → Inv vis s w → Mp ke ve w b l c → r < w.heap.size → (Instr.entry (.pointer (some ⟨r, 0, none⟩))).run P w = .ok (.tuple #[ke x.1, ve x.2.1]) w →
      ∀ K : k.T → World → Prop, (∀ s' w', Inv (vis ++ [x]) s' w' → Fr (fun y => y ≠ r ∧ y ≠ b) w w' → K s' w') → Bd s w K)
    (fin : ∀ vis s w, (∀ x ∈ l, x ∈ vis) → vis.Nodup → (∀ y ∈ vis, y ∈ l) → Inv vis s w → Mp ke ve w b l c → J s w) :
    LoopV [(t', k)] (fun K => K s0 w0) (fun N => fun (s : k.T) (w8 : World) => ∃ (d : Bool) (kv : List Value) (w9 : World), Sem.run P (Instr.next (.pointer (some ⟨r, 0, none⟩)) false T) w8 = .ok (.tuple (Value.bool d :: kv).toArray) w9 ∧
      cond d (Join [(t', k)] (fun (s' : k.T) (w10 : World) => N s' w10) (fun J2 => Bd s w9 J2)) (J s w9)) := by
  refine LoopV.intro (fun n (s : k.T) w => ∃ vis : List (Ent κ β), n = l.length - vis.length ∧ vis.Nodup ∧ (∀ x ∈ vis, x ∈ l) ∧ Itr (κ := κ) (β := β) w r b c vis ∧ Mp ke ve w b l c ∧ Inv vis s w) l.length ⟨[], by simp, by simp, by simp, hi, hm, h0⟩ ?_
  rintro n s w ⟨vis, rfl, hvn, hvl, hit, hmp, hinv⟩
  have hbr : b ≠ r := fun e => by have := hmp.heap; rw [e, hit.heap] at this; cases this
  obtain ⟨d, kv, w6, hrun, hcase⟩ := next_run (P := P) (T := T) hmp hit hvl
  refine ⟨d, kv, w6, hrun, ?_⟩
  rcases hcase with ⟨rfl, hall, hx6⟩ | ⟨rfl, x, hxl, hxv, hit6, hmp6, hfr6, hent⟩
  · exact fin vis s w6 hall hvn hvl (stab _ _ _ _ hinv (hx6.mono fun _ _ h => h.elim)) (hmp.ext hx6)
  · have hlt : vis.length + 1 ≤ l.length := by
      have := (List.nodup_cons.2 ⟨hxv, hvn⟩).length_le_of_subset (l₂ := l) (by intro y hy; rcases List.mem_cons.1 hy with rfl | hy; exact hxl; exact hvl y hy)
      simpa using this
    have hvn' : (vis ++ [x]).Nodup := by
      rw [List.nodup_append]; exact ⟨hvn, by simp, by intro a ha b hb e; simp at hb; subst hb; subst e; exact hxv ha⟩
    have hvl' : ∀ y ∈ vis ++ [x], y ∈ l := by intro y hy; rcases List.mem_append.1 hy with hy | hy; exact hvl y hy; simp at hy; subst hy; exact hxl
    refine Join.dir (step vis x s w6 hxl hxv hvn hvl (by omega) (stab _ _ _ _ hinv hfr6) hmp6 hit6.bound hent _ fun s' w' hinv' hfr => ?_)
    exact ⟨l.length - (vis ++ [x]).length, by simp; omega, vis ++ [x], rfl, hvn', hvl', hit6.fr hfr fun h => h.1 rfl, hmp6.fr hfr fun h => h.2 rfl, hinv'⟩
theorem rangeMnil {t' T : Nat} {k : SK} {r : Nat} {w0 : World} {s0 : k.T} {J : k.T → World → Prop} {Bd : k.T → World → (k.T → World → Prop) → Prop} (hi : w0.heap[r]? = some (.mapIter none 0 #[] 0)) (hJ : J s0 w0) :
    LoopV [(t', k)] (fun K => K s0 w0) (fun N => fun (s : k.T) (w8 : World) => ∃ (d : Bool) (kv : List Value) (w9 : World), Sem.run P (Instr.next (.pointer (some ⟨r, 0, none⟩)) false T) w8 = .ok (.tuple (Value.bool d :: kv).toArray) w9 ∧
      cond d (Join [(t', k)] (fun (s' : k.T) (w10 : World) => N s' w10) (fun J2 => Bd s w9 J2)) (J s w9)) := by
  refine LoopV.intro (fun _ (s : k.T) w => s = s0 ∧ w = w0) 0 ⟨rfl, rfl⟩ ?_
  rintro n s w ⟨rfl, rfl⟩
  exact ⟨false, [], w, next_nil hi, hJ⟩
end
/-- A slice's block is one of its type. -/
theorem Own.blk {α : Type} {T size B : Nat} {enc : α → List Value} {w : World} {s : Sl} {l : List α} (h : Own T size enc B w s l) {a : Addr} (ha : s.a = some a) : ∃ cur, Blk w a.block cur T := by
  obtain ⟨_, _, h⟩ := h
  rcases h with ⟨h1, _⟩ | ⟨g, cap, cur, hv, _, hg, _⟩
  · simp only [Value.slice.injEq] at h1
    rw [h1.1] at ha; cases ha
  · simp only [Value.slice.injEq] at hv
    rw [hv.1] at ha; cases ha
    exact ⟨cur.toList, by unfold Blk; simpa using hg⟩
end Go.VC
namespace Go.VC
open Go
variable {P : Program}
theorem aggNe_str {t n : Nat} (A : IntStr P t n) {xs ys : List Int} (hx : xs.length = n) (hy : ys.length = n) (w : World) :
    (aggEq .neq t (ints xs) (ints ys)).run P w = .ok (.bool (!decide (xs = ys))) w := by
  have h := equalIn_str A hx hy 9998 w
  unfold ints at h ⊢
  simp only [aggEq, Sem.run_bind, run_eqGuard_agg w .neq t _ _ _ _ A.guard, Result.andThen_ok, run_neq_struct w]
  rw [show (10000 : Nat) = 9998 + 2 from rfl, h]; rfl
theorem aggNe_ints {t e n : Nat} (A : IntArr P t e n) {xs ys : List Int} (hx : xs.length = n) (hy : ys.length = n) (w : World) :
    (aggEq .neq t (ints xs) (ints ys)).run P w = .ok (.bool (!decide (xs = ys))) w := by
  have h := equalIn_ints A hx hy 9998 w
  unfold ints at h ⊢
  simp only [aggEq, Sem.run_bind, run_eqGuard_agg w .neq t _ _ _ _ A.guard, Result.andThen_ok, run_neq_struct w]
  rw [show (10000 : Nat) = 9998 + 2 from rfl, h]; rfl
end Go.VC
