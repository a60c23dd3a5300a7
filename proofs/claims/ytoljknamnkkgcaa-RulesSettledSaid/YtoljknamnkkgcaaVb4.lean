/-
  The calculus' soundness, fourth part: a region's operations, in the order of the text and in an order that is drawn.
-/
import Derived.Test.YtoljknamnkkgcaaVb3
namespace Go.VC
open Go
variable {P : Program}

theorem dstIn_lt {nt : Nat} {o : Oper} (hd : dstIn nt o = true) : ∀ t, o.dst = some t → t < nt := fun t ht => by
  unfold dstIn at hd
  rw [ht] at hd
  exact Nat.le_of_ble_eq_true hd

/-- One operation that is wanted, met by 'opV'. -/
theorem opV_wp {At : (World → Prop) → World → Prop} {Sb : Prop → World → Prop} {hs : List (Nat × TypeId × TypeId)} {i nt : Nat} {o : Oper} {env : Env} {K : Env → World → Prop} {w : World} {a : Act}
    {next : Act → World → Prop} {Q : Exit → Act → World → Prop} (hAt : ∀ φ, At φ w → φ w) (hA2 : AtOk (fun φ => At φ w))
    (hd : dstIn nt o = true) (ha : Agree nt a env) (h : opV P At Sb hs i o env K w)
    (hn : ∀ env' v w', Agree nt (a.put o.dst v) env' → (isEff o.op = true ∧ Sb (K env' w') w' ∨ isEff o.op = false ∧ w' = w ∧ K env' w') → next (a.put o.dst v) w') : o.wp P a w next Q := by
  have hd' : ∀ t, o.dst = some t → t < nt := dstIn_lt hd
  unfold opV at h
  obtain ⟨hk, h⟩ := bif_elim h
  cases he : isEff o.op with
  | true =>
    rw [he] at h
    unfold Oper.wp
    rw [execOp_agree ha (served_eff h) hk]
    exact effV_sound h fun v w' hv => hn _ _ _ (ha.put hd' v) (.inl ⟨he, hv⟩)
  | false =>
    rw [he] at h
    obtain ⟨v, h1, h2⟩ := readV_sound hA2 h
    unfold Oper.wp
    rw [execOp_agree ha (served_read h) hk, hAt _ h1]
    exact hn _ _ _ (ha.put hd' v) (.inr ⟨he, rfl, h2⟩)

theorem bool_yielded {ops : Array Oper} {a : Act} {env : Env} {nt j d : Nat} {b : Bool} (ha : Agree nt a env) (hj : dstOf ops.toList j = some d) (hl : look env d = .bool b) : yielded ops a.tmps j = some b := by
  have hk : known env d = true := known_of_look (by rw [hl]; intro e; cases e)
  have := ha.slots d hk
  have hj' : ops[j]?.bind (·.dst) = some d := by simpa [dstOf] using hj
  simp [yielded, hj', this, hl]

/-- What is left to do at one operation: it is carried out, or passed over. -/
inductive Step (P : Program) (At : (World → Prop) → World → Prop) (Sb : Prop → World → Prop) (hs : List (Nat × TypeId × TypeId)) (ops : Array Oper) (i nt : Nat) (o : Oper) (a : Act) (w : World) (K : Env → World → Prop) : Prop
  | run (env : Env) (ha : Agree nt a env) (hw : Region.wanted o (yielded ops a.tmps) = true) (h : opV P At Sb hs i o env K w)
  | skip (env : Env) (ha : Agree nt a env) (hw : Region.wanted o (yielded ops a.tmps) = false) (h : K (putE env o.dst undef) w)

theorem opsV_step {At : (World → Prop) → World → Prop} {Sb : Nat → Prop → World → Prop} {hs : List (Nat × TypeId × TypeId)} {ops : Array Oper} {K : Env → World → Prop} {i nt : Nat} {r : List Nat}
    {res : List (Nat × Bool)} {env : Env} {w : World} {a : Act} (ha : Agree nt a env) (h : opsV P At Sb hs ops.toList K (i :: r) res env w) :
    ∃ o, ops[i]? = some o ∧ ∃ res', Step P At (Sb i) hs ops i nt o a w (fun env' w' => opsV P At Sb hs ops.toList K r res' env' w') := by
  unfold opsV at h
  split at h
  · exact h.elim
  · rename_i o ho
    refine ⟨o, by simpa using ho, ?_⟩
    have wn : ∀ {j want b d}, o.guard = some (j, want) → ∀ {env'}, Agree nt a env' → dstOf ops.toList j = some d → look env' d = .bool b →
        Region.wanted o (yielded ops a.tmps) = (b == want) := fun hg env' ha' hj hl => by
      simp only [Region.wanted, hg, bool_yielded ha' hj hl]
      rfl
    split at h
    · rename_i hg
      exact ⟨res, .run env ha (by simp [Region.wanted, hg]) h⟩
    · rename_i j want hg
      split at h
      · split at h
        · exact h.elim
        · rename_i d hj
          split at h
          · rename_i hl; exact ⟨res, .run env ha (by rw [wn hg ha hj hl]; rfl) h⟩
          · rename_i hl; exact ⟨res, .run env ha (by rw [wn hg ha hj hl]; rfl) h⟩
          · rename_i hl; exact ⟨res, .skip env ha (by rw [wn hg ha hj hl]; rfl) h⟩
          · rename_i hl; exact ⟨res, .skip env ha (by rw [wn hg ha hj hl]; rfl) h⟩
          · exact h.elim
      · split at h
        · exact h.elim
        · rename_i d hj
          split at h
          · rename_i g hl
            have hk : known env d = true := known_of_look (by rw [hl]; intro e; cases e)
            cases g with
            | true =>
              have ha' := ha.note hk hl
              exact ⟨_, .run _ ha' (by rw [wn hg ha hj hl]; rfl) h⟩
            | false =>
              have ha' := ha.note hk hl
              exact ⟨_, .skip _ ha' (by rw [wn hg ha hj hl]; rfl) h⟩
          · rename_i g hl
            have hk : known env d = true := known_of_look (by rw [hl]; intro e; cases e)
            cases g with
            | true =>
              have ha' := ha.note hk hl
              exact ⟨_, .skip _ ha' (by rw [wn hg ha hj hl]; rfl) h⟩
            | false =>
              have ha' := ha.note hk hl
              exact ⟨_, .run _ ha' (by rw [wn hg ha hj hl]; rfl) h⟩
          · rename_i l hl
            obtain ⟨hk, h⟩ := bif_elim h
            refine ⟨res, .skip env ha ?_ h⟩
            have hs := ha.slots d hk
            have hj' : ops[j]?.bind (·.dst) = some d := by simpa [dstOf] using hj
            simp [Region.wanted, hg, yielded, hj', hs, hl]
          · exact h.elim

theorem dstIn_at {ops : Array Oper} {nt i : Nat} {o : Oper} (h : ops.toList.all (dstIn nt) = true) (ho : ops[i]? = some o) : dstIn nt o = true :=
  List.all_eq_true.1 h o (by simpa using Array.mem_of_getElem? ho)

/-- A region whose order is the text's. -/
theorem opsV_wpOps {hs : List (Nat × TypeId × TypeId)} {ops : Array Oper} {K : Env → World → Prop} {nt : Nat} {Q : Exit → Act → World → Prop} {F : Act → Prop} (hd : ops.toList.all (dstIn nt) = true)
    (hF : ∀ (i : Nat) (o : Oper) a v, ops[i]? = some o → F a → F (a.put o.dst v)) (hQ : ∀ env a w, Agree nt a env → F a → K env w → Q .normal a w) :
    ∀ (plan : List Nat) (res : List (Nat × Bool)) (env : Env) (a : Act) (w : World), Agree nt a env → F a →
      opsV P (fun φ w => φ w) (fun _ p _ => p) hs ops.toList K plan res env w → wpOps P ops Q plan a w
  | [], _, env, a, w, ha, hf, h => hQ env a w ha hf h
  | i :: r, res, env, a, w, ha, hf, h => by
    obtain ⟨o, ho, res', st⟩ := opsV_step ha h
    simp only [wpOps, ho]
    cases st with
    | run env' ha' hw h' =>
      rw [if_pos hw]
      refine .inl (opV_wp (fun _ h => h) (atOk_here w) (dstIn_at hd ho) ha' h' fun env2 a2 w2 ha2 hK => ?_)
      rcases hK with ⟨_, hK⟩ | ⟨_, _, hK⟩ <;> exact opsV_wpOps hd hF hQ r res' env2 _ w2 ha2 (hF i o a a2 ho hf) hK
    | skip env' ha' hw h' =>
      rw [if_neg (by rw [hw]; simp)]
      exact opsV_wpOps hd hF hQ r res' _ _ w (ha'.put (dstIn_lt (dstIn_at hd ho)) undef) (hF i o a undef ho hf) h'

/-! ### an order that is drawn -/
section
variable {ops : Array Oper} {Q : Exit → Act → World → Prop} {md : Region.Mode} {C : Nat → World → World → Prop} {Y : World → Prop}
/-- Whatever order is picked from here on; and what each operation does to the world is told by C. -/
def anyC (P : Program) (md : Region.Mode) (ops : Array Oper) (Q : Exit → Act → World → Prop) (C : Nat → World → World → Prop) : Nat → Array Bool → Act → World → Prop
  | 0, listed, a, w => Region.ready md ops listed = [] ∧ Q .normal a w
  | f + 1, listed, a, w => (Region.ready md ops listed = [] → Q .normal a w) ∧
    ∀ i ∈ Region.ready md ops listed, wpOp P ops Q i (fun a' w' => C i w w' ∧ anyC P md ops Q C f (listed.setIfInBounds i true) a' w') a w
theorem anyC_wpAny : ∀ (f : Nat) (listed : Array Bool) (a : Act) (w : World), anyC P md ops Q C f listed a w → wpAny P md ops Q f listed a w
  | 0, _, _, _, h => h
  | f + 1, _, _, _, h => ⟨h.1, fun i hi => wpOp_mono (fun _ _ h' => anyC_wpAny f _ _ _ h'.2) (h.2 i hi)⟩
/-- An operation that may come up, that yields its value in every world of a kind that the others keep to, may come up first. -/
theorem anyC_first {i : Nat} {oi : Oper} {v : Value} (hi : ops[i]? = some oi) (hsel : ∀ (j : Nat) (o : Oper) cs b, ops[j]? = some o → o.op ≠ .select cs b)
    (hQ : ∀ c a w, ¬ Q (.panic c) a w) (hCi : ∀ w, C i w w) :
    ∀ (f : Nat) (listed : Array Bool) (a : Act) (w : World),
      (∀ j oj, ops[j]? = some oj → j ≠ i → listed.getD j true = false → (∀ e ∈ oj.after, Region.binds md e = true → e.on ≠ i) → oi.apart ops oj = true ∧ ∀ w w', C j w w' → Y w → Y w') →
      i ∈ Region.ready md ops listed → YieldsIf P ops Y oi v a → Y w →
      anyC P md ops Q C f (listed.setIfInBounds i true) (a.put oi.dst v) w → anyC P md ops Q C (f + 1) listed a w := by
  intro f
  induction f with
  | zero =>
    intro listed a w _ hr hy hY H
    refine ⟨fun h => (by rw [h] at hr; cases hr), fun j hj => ?_⟩
    by_cases hji : j = i
    · subst hji; exact hy.wpOp hi hY ⟨hCi w, H⟩
    · have := ready_mono hj hji
      rw [H.1] at this
      cases this
  | succ f ih =>
    intro listed a w hfree hr hy hY H
    refine ⟨fun h => (by rw [h] at hr; cases hr), fun j hj => ?_⟩
    by_cases hji : j = i
    · subst hji; exact hy.wpOp hi hY ⟨hCi w, H⟩
    · have h1 := H.2 j (ready_mono hj hji)
      obtain ⟨hjun, oj, hoj, hall⟩ := mem_ready.1 hj
      have hnot : ∀ e ∈ oj.after, Region.binds md e = true → e.on ≠ i := fun e he hb heq => by
        have h1 := hall e he hb
        have h0 := (mem_ready.1 hr).1
        rw [heq] at h1
        rcases Nat.lt_or_ge i listed.size with h' | h'
        · simp [h'] at h0 h1; rw [h0] at h1; cases h1
        · simp [Array.getElem?_eq_none h'] at h1
      obtain ⟨hap, hkeep⟩ := hfree j oj hoj hji hjun hnot
      have h2 := wpOp_putIf hoj hap (fun cs b => hsel i oi cs b hi) (fun cs b => hsel j oj cs b hoj) (fun c a w h => (hQ c _ w h).elim) hy h1
      have hfree' : ∀ k ok, ops[k]? = some ok → k ≠ i → (listed.setIfInBounds j true).getD k true = false →
          (∀ e ∈ ok.after, Region.binds md e = true → e.on ≠ i) → oi.apart ops ok = true ∧ ∀ w w', C k w w' → Y w → Y w' := fun k ok hk hki hun hno => by
        refine hfree k ok hk hki ?_ hno
        by_cases hjk : j = k
        · subst hjk; exact hjun
        · rw [getD_set_ne true hjk] at hun; exact hun
      refine wpOp_mono (fun a' w' h3 => ⟨h3.2.1, ih (listed.setIfInBounds j true) a' w' hfree' (ready_mono hr (Ne.symm hji)) h3.1 (hkeep w w' h3.2.1 hY) ?_⟩) h2
      rw [Array.setIfInBounds_comm _ _ hji]
      exact h3.2.2
end
end Go.VC
