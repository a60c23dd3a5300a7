/-
  The calculus' soundness, fifth part: a region that draws; the whole code; a function.
-/
import Derived.Test.YtoljknamnkkgcaaVb4
import Derived.Deep.LoopGhost
namespace Go.VC
open Go
variable {P : Program}

/-- What an operation of a drawn region does to the world: nothing; or, until the tail, it keeps S. -/
def Cond (ops : Array Oper) (tail : List Nat) (S : World → Prop) (i : Nat) (w w' : World) : Prop :=
  match ops[i]? with
  | some o => if isEff o.op = true then (tail.contains i = false → S w → S w') else w' = w
  | none => True
def readsDone (ops : Array Oper) (listed : Array Bool) : Prop := ∀ (r : Nat) (o : Oper), ops[r]? = some o → isRead o.op = true → listed.getD r true = true

theorem pure_of_read {At : (World → Prop) → Prop} {ρ : Operand → Value} {ent : Option (TypeId × TypeId)} {op : Op} {T : TypeId} {K : Value → Prop} (hr : isRead op = false) (h : readV P At ρ ent op T K) : pureV P ρ op K := by
  unfold readV at h
  split at h <;> first | exact h | (simp [isRead] at hr)

theorem opV_quiet {At : (World → Prop) → World → Prop} {Sb : Prop → World → Prop} {hs : List (Nat × TypeId × TypeId)} {i nt : Nat} {o : Oper} {env : Env} {K : Env → World → Prop} {w : World} {a : Act} {S : World → Prop}
    {ops : Array Oper} (hAt : ∀ φ, S w → At φ w → ∀ w', S w' → φ w') (hA2 : AtOk (fun φ => At φ w)) (ha : Agree nt a env) (hd : dstIn nt o = true) (hw : Region.wanted o (yielded ops a.tmps) = true)
    (he : isEff o.op = false) (h : opV P At Sb hs i o env K w) :
    ∃ v, (isRead o.op = true → S w → YieldsIf P ops S o v a) ∧ (isRead o.op = false → YieldsIf P ops (fun _ => True) o v a) ∧ Agree nt (a.put o.dst v) (putE env o.dst v) ∧ K (putE env o.dst v) w := by
  unfold opV at h
  obtain ⟨hk, h⟩ := bif_elim h
  rw [he] at h
  have hx := execOp_agree ha (served_read h) hk
  cases hr : isRead o.op with
  | false =>
    obtain ⟨v, h1, h2⟩ := pureV_sound (pure_of_read hr h)
    exact ⟨v, (fun e => by cases e), fun _ => .inl ⟨hw, fun w' _ => by rw [hx]; exact h1 w'⟩, ha.put (dstIn_lt hd) v, h2⟩
  | true =>
    obtain ⟨v, h1, h2⟩ := readV_sound hA2 h
    exact ⟨v, fun _ hS => .inl ⟨hw, fun w' hw' => by rw [hx]; exact hAt _ hS h1 w' hw'⟩, (fun e => by cases e), ha.put (dstIn_lt hd) v, h2⟩

theorem tail_edge {ops : Array Oper} {tail : List Nat} (ht : tailOk ops.toList tail = true) {j r : Nat} {oj o : Oper} (hj : tail.contains j = true) (hoj : ops[j]? = some oj) (ho : ops[r]? = some o) (hr : isRead o.op = true) :
    ∃ e ∈ oj.after, Region.binds .any e = true ∧ e.on = r := by
  have h1 := List.all_eq_true.1 ht j (by simpa using hj)
  have hm : (o, r) ∈ ops.toList.zipIdx := by
    rw [List.mem_zipIdx_iff_getElem?]
    simpa using ho
  have h2 := List.all_eq_true.1 h1 _ hm
  have hoj' : ops.toList[j]? = some oj := by simpa using hoj
  simp only [hr, hoj', Bool.not_true, Bool.false_or] at h2
  obtain ⟨e, he, h3⟩ := List.any_eq_true.1 h2
  simp only [Bool.and_eq_true] at h3
  exact ⟨e, by simpa using he, h3.1, Nat.eq_of_beq_eq_true h3.2⟩

theorem opsV_anyE {At : (World → Prop) → World → Prop} {Sb : Nat → Prop → World → Prop} {hs : List (Nat × TypeId × TypeId)} {ops : Array Oper} {K : Env → World → Prop} {nt : Nat} {Q : Exit → Act → World → Prop} {S : World → Prop} {tail : List Nat} {F : Act → Prop}
    (hF : ∀ (i : Nat) (o : Oper) a v, ops[i]? = some o → F a → F (a.put o.dst v))
    (hAt : ∀ φ w, S w → At φ w → ∀ w', S w' → φ w') (hA2 : ∀ w, AtOk (fun φ => At φ w)) (hSb : ∀ i o, ops[i]? = some o → isEff o.op = true → ∀ p w', Sb i p w' → (tail.contains i = false → S w') ∧ p)
    (hsel : Region.noSelect ops = true) (ht : tailOk ops.toList tail = true) (hd : ops.toList.all (dstIn nt) = true) (hQp : ∀ c a w, ¬ Q (.panic c) a w)
    {E : Array Bool → Bool} {n : Nat} (hQ : ∀ listed env a w, E listed = true → listed.size = ops.size → Agree nt a env → F a → (S w ∨ readsDone ops listed) → K env w → anyC P .any ops Q (Cond ops tail S) n listed a w) :
    ∀ (plan : List Nat) (listed : Array Bool) (res : List (Nat × Bool)) (env : Env) (a : Act) (w : World), listed.size = ops.size → planGoE ops E plan listed = true → Agree nt a env → F a → (S w ∨ readsDone ops listed) →
      opsV P At Sb hs ops.toList K plan res env w → anyC P .any ops Q (Cond ops tail S) (plan.length + n) listed a w
  | [], listed, res, env, a, w, hl, hp, ha, hf, hS, h => by
    simp only [planGoE] at hp
    simp only [List.length_nil, Nat.zero_add]
    exact hQ listed env a w hp hl ha hf hS h
  | i :: r, listed, res, env, a, w, hl, hp, ha, hf, hS, h => by
    obtain ⟨o, ho, res', st⟩ := opsV_step ha h
    simp only [planGoE, ho, Bool.and_eq_true] at hp
    rw [show (i :: r).length + n = (r.length + n) + 1 from by simp; omega]
    obtain ⟨hp1, hp2⟩ := hp
    have hdi := dstIn_at hd ho
    have hl' : (listed.setIfInBounds i true).size = ops.size := by simpa using hl
    have mono : readsDone ops listed → readsDone ops (listed.setIfInBounds i true) := fun h k ok hk hr => by
      have := h k ok hk hr
      by_cases e : i = k
      · subst e
        have hlt : i < ops.size := by
          rcases Nat.lt_or_ge i ops.size with h | h
          · exact h
          · rw [Array.getElem?_eq_none h] at hk; cases hk
        simp [hl, hlt]
      · rw [getD_set_ne true e]; exact this
    cases he : isEff o.op with
    | true =>
      rw [he] at hp1
      simp only [cond_true] at hp1
      have hrd : Region.ready .any ops listed = [i] := by
        cases hr : Region.ready .any ops listed with
        | nil => rw [hr] at hp1; cases hp1
        | cons j rest =>
          cases rest with
          | nil => rw [hr] at hp1; simp only at hp1; rw [Nat.eq_of_beq_eq_true hp1]
          | cons => rw [hr] at hp1; cases hp1
      refine ⟨(fun h0 => by rw [hrd] at h0; cases h0), fun j hj => ?_⟩
      rw [hrd] at hj
      obtain rfl : j = i := by simpa using hj
      have hmem : j ∈ Region.ready .any ops listed := by rw [hrd]; simp
      -- in the tail all reads are done
      have done : tail.contains j = true → readsDone ops (listed.setIfInBounds j true) := fun htl k ok hk hr => by
        obtain ⟨e, hem, hb, hon⟩ := tail_edge ht htl ho hk hr
        obtain ⟨_, oj, hoj, hall⟩ := mem_ready.1 hmem
        rw [ho] at hoj; cases hoj
        have := hall e hem hb
        rw [hon] at this
        have hlt : k < listed.size := by
          rw [hl]
          rcases Nat.lt_or_ge k ops.size with h | h
          · exact h
          · rw [Array.getElem?_eq_none h] at hk; cases hk
        by_cases e' : j = k
        · subst e'; simp [hlt]
        · rw [getD_set_ne true e']
          simp only [Array.getD_eq_getD_getElem?] at this ⊢
          rw [Array.getElem?_eq_getElem hlt] at this ⊢
          simpa using this
      unfold wpOp
      simp only [ho]
      cases st with
      | run env' ha' hw h' =>
        rw [if_pos hw]
        left
        unfold opV at h'
        obtain ⟨hk, h'⟩ := bif_elim h'
        rw [he] at h'
        unfold Oper.wp
        rw [execOp_agree ha' (served_eff h') hk]
        refine effV_sound h' fun v w' hv => ?_
        obtain ⟨h1, h2⟩ := hSb _ _ ho he _ _ hv
        refine ⟨?_, opsV_anyE hF hAt hA2 hSb hsel ht hd hQp hQ r _ res' _ _ w' hl' hp2 (ha'.put (dstIn_lt hdi) v) (hF _ o a v ho hf) ?_ h2⟩
        · simp only [Cond, ho, he, if_true]; exact fun ht _ => h1 ht
        · cases hc : tail.contains j with
          | false => exact .inl (h1 hc)
          | true => exact .inr (done hc)
      | skip env' ha' hw h' =>
        rw [if_neg (by rw [hw]; simp)]
        refine ⟨?_, opsV_anyE hF hAt hA2 hSb hsel ht hd hQp hQ r _ res' _ _ w hl' hp2 (ha'.put (dstIn_lt hdi) undef) (hF _ o a undef ho hf) (hS.imp id mono) h'⟩
        simp only [Cond, ho, he, if_true]; exact fun _ h => h
    | false =>
      rw [he] at hp1
      simp only [cond_false, Bool.and_eq_true] at hp1
      obtain ⟨hp1, hfree⟩ := hp1
      have hmem : i ∈ Region.ready .any ops listed := by simpa using hp1
      have hun : listed.getD i true = false := (mem_ready.1 hmem).1
      have hCi : ∀ w, Cond ops tail S i w w := fun w => by simp [Cond, ho, he]
      have keep : isRead o.op = true → ∀ j oj, ops[j]? = some oj → j ≠ i → listed.getD j true = false → (∀ e ∈ oj.after, Region.binds .any e = true → e.on ≠ i) →
          o.apart ops oj = true ∧ ∀ w w', Cond ops tail S j w w' → S w → S w' := fun hr j oj hoj hji hju hno => by
        refine ⟨Region.free_spec ho hfree j oj hoj hji hju hno, fun w w' hc hSw => ?_⟩
        simp only [Cond, hoj] at hc
        cases hej : isEff oj.op with
        | false => rw [hej] at hc; simp only [Bool.false_eq_true, if_false] at hc; subst hc; exact hSw
        | true =>
          rw [hej] at hc
          simp only [if_true] at hc
          cases htl : tail.contains j with
          | false => exact hc htl hSw
          | true =>
            obtain ⟨e, hem, hb, hon⟩ := tail_edge ht htl hoj ho hr
            exact absurd hon (hno e hem hb)
      have keepT : ∀ j oj, ops[j]? = some oj → j ≠ i → listed.getD j true = false → (∀ e ∈ oj.after, Region.binds .any e = true → e.on ≠ i) →
          o.apart ops oj = true ∧ ∀ w w', Cond ops tail S j w w' → (fun _ : World => True) w → (fun _ : World => True) w' := fun j oj hoj hji hju hno =>
        ⟨Region.free_spec ho hfree j oj hoj hji hju hno, fun _ _ _ _ => trivial⟩
      have sel := Region.noSelect_spec hsel
      cases st with
      | run env' ha' hw h' =>
        have hSr : isRead o.op = true → S w := fun hr => by
          rcases hS with hS | hS
          · exact hS
          · have := hS i o ho hr; rw [hun] at this; cases this
        have next : ∀ v, Agree nt (a.put o.dst v) (putE env' o.dst v) → opsV P At Sb hs ops.toList K r res' (putE env' o.dst v) w → anyC P .any ops Q (Cond ops tail S) (r.length + n) (listed.setIfInBounds i true) (a.put o.dst v) w :=
          fun v hav hK => opsV_anyE hF hAt hA2 hSb hsel ht hd hQp hQ r _ res' _ _ w hl' hp2 hav (hF _ o a v ho hf) (hS.imp id mono) hK
        have hq : ∃ v, (isRead o.op = true → YieldsIf P ops S o v a) ∧ (isRead o.op = false → YieldsIf P ops (fun _ => True) o v a) ∧ Agree nt (a.put o.dst v) (putE env' o.dst v) ∧ opsV P At Sb hs ops.toList K r res' (putE env' o.dst v) w := by
          obtain ⟨v, h1, h2, h3, h4⟩ := opV_quiet (S := S) (ops := ops) (fun φ => hAt φ w) (hA2 w) ha' hdi hw he h'
          exact ⟨v, fun hr => h1 hr (hSr hr), h2, h3, h4⟩
        obtain ⟨v, h1, h2, h3, h4⟩ := hq
        cases hr : isRead o.op with
        | true => exact anyC_first ho sel hQp hCi (r.length + n) listed a w (keep hr) hmem (h1 hr) (hSr hr) (next v h3 h4)
        | false => exact anyC_first (Y := fun _ => True) ho sel hQp hCi (r.length + n) listed a w keepT hmem (h2 hr) trivial (next v h3 h4)
      | skip env' ha' hw h' =>
        refine anyC_first (v := undef) (Y := fun _ => True) ho sel hQp hCi (r.length + n) listed a w keepT hmem (.inr ⟨hw, rfl⟩) trivial ?_
        exact opsV_anyE hF hAt hA2 hSb hsel ht hd hQp hQ r _ res' _ _ w hl' hp2 (ha'.put (dstIn_lt hdi) undef) (hF _ o a undef ho hf) (hS.imp id mono) h'

theorem opsV_any {At : (World → Prop) → World → Prop} {Sb : Nat → Prop → World → Prop} {hs : List (Nat × TypeId × TypeId)} {ops : Array Oper} {K : Env → World → Prop} {nt : Nat} {Q : Exit → Act → World → Prop} {S : World → Prop} {tail : List Nat} {F : Act → Prop}
    (hF : ∀ (i : Nat) (o : Oper) a v, ops[i]? = some o → F a → F (a.put o.dst v))
    (hAt : ∀ φ w, S w → At φ w → ∀ w', S w' → φ w') (hA2 : ∀ w, AtOk (fun φ => At φ w)) (hSb : ∀ i o, ops[i]? = some o → isEff o.op = true → ∀ p w', Sb i p w' → (tail.contains i = false → S w') ∧ p)
    (hsel : Region.noSelect ops = true) (ht : tailOk ops.toList tail = true) (hd : ops.toList.all (dstIn nt) = true) (hQp : ∀ c a w, ¬ Q (.panic c) a w)
    (hQ : ∀ env a w, Agree nt a env → F a → K env w → Q .normal a w) :
    ∀ (plan : List Nat) (listed : Array Bool) (res : List (Nat × Bool)) (env : Env) (a : Act) (w : World), listed.size = ops.size → planGo ops plan listed = true → Agree nt a env → F a → (S w ∨ readsDone ops listed) →
      opsV P At Sb hs ops.toList K plan res env w → anyC P .any ops Q (Cond ops tail S) plan.length listed a w :=
  fun plan listed res env a w hl hp ha hf hS h => opsV_anyE (n := 0) hF hAt hA2 hSb hsel ht hd hQp (fun _ env a w he _ ha hf _ hK => ⟨by simpa using he, hQ env a w ha hf hK⟩) plan listed res env a w hl hp ha hf hS h

theorem effIdx_mem {ops : Array Oper} {i : Nat} {o : Oper} (ho : ops[i]? = some o) (he : isEff o.op = true) : (effIdx ops.toList).contains i = true := by
  have hm : (o, i) ∈ ops.toList.zipIdx := by rw [List.mem_zipIdx_iff_getElem?]; simpa using ho
  have : i ∈ effIdx ops.toList := List.mem_map.2 ⟨(o, i), List.mem_filter.2 ⟨hm, he⟩, rfl⟩
  simpa using this

/-! ### places where ways meet -/
/-- A smaller environment. -/
def Sub (e f : Env) : Prop := ∀ t, known e t = true → known f t = true ∧ look f t = look e t
theorem Sub.agree {nt : Nat} {a : Act} {e f : Env} (h : Sub e f) (ha : Agree nt a f) : Agree nt a e :=
  ⟨ha.defers, ha.size, fun t ht => by obtain ⟨h1, h2⟩ := h t ht; rw [ha.slots t h1, h2]⟩
theorem Sub.cons {e f : Env} (h : Sub e f) {t : Nat} {v : Value} (hk : known f t = true) (hv : look f t = v) : Sub ((t, v) :: e) f := fun s hs => by
  by_cases e' : t = s
  · subst e'; exact ⟨hk, by rw [look_cons_same]; exact hv⟩
  · rw [known_cons_other _ _ e'] at hs; rw [look_cons_other _ _ e']; exact h s hs
theorem dec_enc {s : SK} {v : Value} {K : s.T → Prop} (h : s.dec v K) : ∃ x, v = s.enc x ∧ K x := by
  unfold SK.dec at h
  split at h
  · rename_i k k' n K'
    obtain ⟨hk, h1⟩ := bif_elim h
    obtain rfl := ikEq_eq hk
    exact ⟨n, rfl, h1⟩
  · exact ⟨_, rfl, h⟩
  · exact ⟨_, rfl, h⟩
  · exact ⟨_, rfl, h⟩
  · exact ⟨_, rfl, h⟩
  · exact ⟨_, rfl, h⟩
  · exact ⟨_, rfl, h⟩
  · exact h.elim
theorem appC_cons {t : Nat} {s : SK} {r : Live} {env : Env} {K : Cont ((t, s) :: r)} {w : World} (h : appC ((t, s) :: r) env K w) :
    ∃ x : s.T, known env t = true ∧ look env t = s.enc x ∧ appC r env (K x) w := by
  unfold appC at h
  obtain ⟨hk, h⟩ := bif_elim h
  obtain ⟨x, hx, h⟩ := dec_enc h
  exact ⟨x, hk, hx, h⟩
theorem dec_mk {s : SK} {K : s.T → Prop} (x : s.T) (h : K x) : s.dec (s.enc x) K := by
  cases s with
  | int k =>
    have hk : ikEq k k = true := by cases k <;> rfl
    show bif ikEq k k then K x else False
    rw [hk]; exact h
  | _ => exact h
theorem appC_mk {t : Nat} {s : SK} {r : Live} {env : Env} {K : Cont ((t, s) :: r)} {w : World} {x : s.T} (hk : known env t = true) (hx : look env t = s.enc x) (h : appC r env (K x) w) : appC ((t, s) :: r) env K w := by
  unfold appC
  rw [hk, hx]
  exact dec_mk x h
theorem Agree.cons {nt : Nat} {a : Act} {acc env : Env} (h : Agree nt a acc) (he : Agree nt a env) {t : Nat} {v : Value} (hk : known env t = true) (hv : look env t = v) : Agree nt a ((t, v) :: acc) :=
  ⟨h.defers, h.size, fun s hs => by
    by_cases e' : t = s
    · subst e'; rw [look_cons_same, ← hv]; exact he.slots _ hk
    · rw [known_cons_other _ _ e'] at hs; rw [look_cons_other _ _ e']; exact h.slots s hs⟩
theorem Agree.empty {nt : Nat} {a : Act} {env : Env} (he : Agree nt a env) : Agree nt a [] := ⟨he.defers, he.size, fun s hs => by cases hs⟩
theorem appC_lamC {nt : Nat} {a : Act} : ∀ {L : Live} {f : Env → World → Prop} {acc env : Env} {w : World}, Agree nt a acc → Agree nt a env → appC L env (lamC L f acc) w → ∃ e, Agree nt a e ∧ f e w
  | [], f, acc, env, w, hs, _, h => ⟨acc, hs, h⟩
  | (t, s) :: r, f, acc, env, w, hs, he, h => by
    obtain ⟨x, hk, hx, h⟩ := appC_cons h
    exact appC_lamC (hs.cons he hk hx) he h
theorem appC_impC : ∀ {L : Live} {J K : Cont L} {env : Env} {w : World}, impC L J K → appC L env J w → appC L env K w
  | [], _, _, _, _, hi, h => hi _ h
  | (t, s) :: r, J, K, env, w, hi, h => by
    obtain ⟨x, hk, hx, h⟩ := appC_cons h
    exact appC_mk hk hx (appC_impC (hi x) h)
theorem appC_ltC : ∀ {L : Live} {n : Nat} {J : Nat → Cont L} {env : Env} {w : World}, appC L env (ltC L n J) w → ∃ m, m < n ∧ appC L env (J m) w
  | [], _, _, _, _, h => h
  | (t, s) :: r, n, J, env, w, h => by
    obtain ⟨x, hk, hx, h⟩ := appC_cons h
    obtain ⟨m, hm, h⟩ := appC_ltC (J := fun m => J m x) h
    exact ⟨m, hm, appC_mk hk hx h⟩
theorem memN_iff {n : Nat} : ∀ {l : List Nat}, memN n l = true ↔ n ∈ l
  | [] => by simp [memN]
  | m :: r => by
    unfold memN
    cases hb : Nat.beq n m with
    | true => simp [Nat.eq_of_beq_eq_true hb]
    | false =>
      have : n ≠ m := fun e => by subst e; simp at hb
      simp [memN_iff (l := r), this]
theorem known_keepE {ws : List Nat} {t : Nat} : ∀ {env : Env}, known (keepE ws env) t = true → t ∉ ws ∧ known env t = true ∧ look (keepE ws env) t = look env t
  | [], h => by cases h
  | (s, v) :: r, h => by
    unfold keepE at h ⊢
    cases hm : memN s ws with
    | true =>
      rw [hm] at h
      obtain ⟨h1, h2, h3⟩ := known_keepE (env := r) h
      have hne : s ≠ t := fun e => by subst e; exact h1 (memN_iff.1 hm)
      rw [known_cons_other _ _ hne, look_cons_other _ _ hne]
      exact ⟨h1, h2, h3⟩
    | false =>
      rw [hm] at h
      simp only [cond_false] at h ⊢
      by_cases e : s = t
      · subst e
        refine ⟨(fun hw => by rw [memN_iff.2 hw] at hm; cases hm), (by rw [known_cons]; simp), (by rw [look_cons_same, look_cons_same])⟩
      · rw [known_cons_other _ _ e] at h
        rw [known_cons_other _ _ e, look_cons_other _ _ e, look_cons_other _ _ e]
        exact known_keepE h
/-- The slots beside these are as they were. -/
def Frm (ws : List Nat) (a a' : Act) : Prop := ∀ t, t ∉ ws → a'.tmps[t]? = a.tmps[t]?
theorem Frm.refl (ws : List Nat) (a : Act) : Frm ws a a := fun _ _ => rfl
theorem Frm.trans {ws ws' : List Nat} {a b c : Act} (h : Frm ws a b) (k : Frm ws' b c) : Frm (ws ++ ws') a c := fun t ht => by
  simp only [List.mem_append, not_or] at ht
  rw [k t ht.2, h t ht.1]
theorem Frm.mono {ws ws' : List Nat} {a b : Act} (h : Frm ws a b) (hs : ∀ t, t ∈ ws → t ∈ ws') : Frm ws' a b := fun t ht => h t fun h' => ht (hs t h')
theorem Frm.join {ws : List Nat} {a b c : Act} (h : Frm ws a b) (k : Frm ws b c) : Frm ws a c := fun t ht => by rw [k t ht, h t ht]
theorem Frm.keep {nt : Nat} {ws : List Nat} {a a' : Act} {env env' : Env} (h : Frm ws a a') (ha : Agree nt a env) (ha' : Agree nt a' env') : Agree nt a' (keepE ws env) :=
  ⟨ha'.defers, ha'.size, fun t ht => by
    obtain ⟨h1, h2, h3⟩ := known_keepE ht
    rw [h t h1, h3]; exact ha.slots t h2⟩
theorem Frm.put {ops : Array Oper} {a a' : Act} {i : Nat} {o : Oper} {v : Value} (ho : ops[i]? = some o) (h : Frm (ops.toList.filterMap (·.dst)) a a') : Frm (ops.toList.filterMap (·.dst)) a (a'.put o.dst v) := fun t ht => by
  rw [← h t ht]
  cases hd : o.dst with
  | none => rfl
  | some d =>
    have hne : d ≠ t := fun e => ht (List.mem_filterMap.2 ⟨o, by simpa using Array.mem_of_getElem? ho, by rw [hd, e]⟩)
    simp [Act.put, Array.getElem?_setIfInBounds_ne hne]

/-! ### the whole code -/
def QA (nt : Nat) (ws : List Nat) (a0 : Act) (Q : Ex → Env → World → Prop) : Exit → Act → World → Prop
  | .normal, a, w => Frm ws a0 a ∧ ∃ env, Agree nt a env ∧ Q .nrm env w
  | .exit i, a, w => Frm ws a0 a ∧ ∃ env, Agree nt a env ∧ Q (.ext i) env w
  | .ret, a, w => Frm ws a0 a ∧ ∃ env, Agree nt a env ∧ Q .ret env w
  | _, _, _ => False
theorem QA.mono {nt : Nat} {ws ws' : List Nat} {a0 a1 : Act} {Q : Ex → Env → World → Prop} (hf : ∀ a, Frm ws a0 a → Frm ws' a1 a) {e : Exit} {a : Act} {w : World} (h : QA nt ws a0 Q e a w) : QA nt ws' a1 Q e a w := by
  cases e with
  | normal => exact ⟨hf _ h.1, h.2⟩
  | exit i => exact ⟨hf _ h.1, h.2⟩
  | ret => exact ⟨hf _ h.1, h.2⟩
  | goto l => exact h
  | panic c => exact h
  | outgrown => exact h

theorem join_app {L : Live} {Q : Ex → Env → World → Prop} {J : Cont L} {env0 : Env} {nt : Nat} {a0 a : Act} {ws : List Nat} (ha0 : Agree nt a0 env0) (hf : Frm ws a0 a) (hi : impC L J (lamC L (Q .nrm) (keepE ws env0))) {env : Env} {w : World} (ha : Agree nt a env) (h : appC L env J w) : ∃ env, Agree nt a env ∧ Q .nrm env w :=
  appC_lamC (hf.keep ha0 ha) ha (appC_impC hi h)

theorem draw_sound (hm : P.follows .mixedOrders = true) {nt id : Nat} {ops : Array Oper} {plan tail : List Nat} {gen : Bool} {K : Env → World → Prop} {env : Env} {a : Act} {w : World} {Q : Exit → Act → World → Prop}
    (hd : ops.toList.all (dstIn nt) = true) (hp : planOk ops plan (bif gen then tail else effIdx ops.toList) = true) (ha : Agree nt a env) (hQp : ∀ c a w, ¬ Q (.panic c) a w) (hQ : ∀ env a' w, Agree nt a' env → Frm (ops.toList.filterMap (·.dst)) a a' → K env w → Q .normal a' w)
    (h : Draw gen (fun At Sb w' => opsV P At (fun i p w'' => bif tail.contains i then p else Sb p w'') [] ops.toList K plan [] env w') w) : (Code.region id ops true).wp P Q a w := by
  unfold planOk at hp
  simp only [Bool.and_eq_true] at hp
  obtain ⟨⟨⟨hl, h1⟩, h2⟩, h3⟩ := hp
  have hl := Nat.eq_of_beq_eq_true hl
  refine wp_region_any hm ?_
  change wpAny P .any ops Q ops.size (Array.replicate ops.size false) a w.drew
  rw [← hl]
  rw [← hl] at h2
  cases gen with
  | false =>
    refine anyC_wpAny _ _ _ _ (opsV_any (F := Frm (ops.toList.filterMap (·.dst)) a) (fun i o a' v ho h => h.put ho) (S := fun x => x = w.drew) (tail := effIdx ops.toList) ?_ (fun w => atOk_here w) ?_ h1 h3 hd hQp hQ plan _ [] env a w.drew (by simp [hl]) h2 ha (Frm.refl _ _) (.inl rfl) h)
    · intro φ w1 e1 hφ w2 e2; rw [e2, ← e1]; exact hφ
    · intro i o ho he p w' hp
      exact ⟨(fun e => by rw [effIdx_mem ho he] at e; cases e), (by cases hc : tail.contains i <;> rw [hc] at hp <;> exact hp)⟩
  | true =>
    obtain ⟨S, hS, h⟩ := h
    refine anyC_wpAny _ _ _ _ (opsV_any (F := Frm (ops.toList.filterMap (·.dst)) a) (fun i o a' v ho h => h.put ho) (S := S) (tail := tail) ?_ ?_ ?_ h1 h3 hd hQp hQ plan _ [] env a w.drew (by simp [hl]) h2 ha (Frm.refl _ _) (.inl hS) h)
    · intro φ w1 _ hφ w2 e2; exact hφ w2 e2
    · intro w; exact atOk_all S
    · intro i o ho he p w' hp
      cases hc : tail.contains i with
      | true => rw [hc] at hp; exact ⟨(fun e => by cases e), hp⟩
      | false => rw [hc] at hp; exact ⟨fun _ => hp.1, hp.2⟩

theorem eff_step {At : (World → Prop) → World → Prop} {Sb : Nat → Prop → World → Prop} {hs : List (Nat × TypeId × TypeId)} {ops : Array Oper} {K : Env → World → Prop} {nt : Nat} {Q : Exit → Act → World → Prop} {S : World → Prop} {tail : List Nat} {F : Act → Prop}
    (hF : ∀ (i : Nat) (o : Oper) a v, ops[i]? = some o → F a → F (a.put o.dst v))
    (hSb : ∀ i o, ops[i]? = some o → isEff o.op = true → ∀ p w', Sb i p w' → (tail.contains i = false → S w') ∧ p)
    (ht : tailOk ops.toList tail = true) (hd : ops.toList.all (dstIn nt) = true) {j : Nat} {r : List Nat} {res : List (Nat × Bool)} {env : Env} {a : Act} {w : World} {listed : Array Bool}
    (he : isEffAt ops j = true) (hmem : j ∈ Region.ready .any ops listed) (hl : listed.size = ops.size) (ha : Agree nt a env) (hf : F a) (hS : S w ∨ readsDone ops listed) (h : opsV P At Sb hs ops.toList K (j :: r) res env w) {m : Nat}
    (hrest : ∀ res' env' a' w', Agree nt a' env' → F a' → (S w' ∨ readsDone ops (listed.setIfInBounds j true)) → opsV P At Sb hs ops.toList K r res' env' w' → anyC P .any ops Q (Cond ops tail S) m (listed.setIfInBounds j true) a' w') :
    wpOp P ops Q j (fun a' w' => Cond ops tail S j w w' ∧ anyC P .any ops Q (Cond ops tail S) m (listed.setIfInBounds j true) a' w') a w := by
  obtain ⟨o, ho, res', st⟩ := opsV_step ha h
  have he : isEff o.op = true := by unfold isEffAt at he; rw [ho] at he; exact he
  have hdi := dstIn_at hd ho
  have mono : readsDone ops listed → readsDone ops (listed.setIfInBounds j true) := fun h k ok hk hr => by
    have := h k ok hk hr
    by_cases e : j = k
    · subst e
      have hlt : j < ops.size := by
        rcases Nat.lt_or_ge j ops.size with h | h
        · exact h
        · rw [Array.getElem?_eq_none h] at hk; cases hk
      simp [hl, hlt]
    · rw [getD_set_ne true e]; exact this
  have done : tail.contains j = true → readsDone ops (listed.setIfInBounds j true) := fun htl k ok hk hr => by
    obtain ⟨e, hem, hb, hon⟩ := tail_edge ht htl ho hk hr
    obtain ⟨_, oj, hoj, hall⟩ := mem_ready.1 hmem
    rw [ho] at hoj; cases hoj
    have := hall e hem hb
    rw [hon] at this
    have hlt : k < listed.size := by
      rw [hl]
      rcases Nat.lt_or_ge k ops.size with h | h
      · exact h
      · rw [Array.getElem?_eq_none h] at hk; cases hk
    by_cases e' : j = k
    · subst e'; simp [hlt]
    · rw [getD_set_ne true e']
      simp only [Array.getD_eq_getD_getElem?] at this ⊢
      rw [Array.getElem?_eq_getElem hlt] at this ⊢
      simpa using this
  unfold wpOp
  simp only [ho]
  cases st with
  | run env' ha' hw h' =>
    rw [if_pos hw]
    left
    unfold opV at h'
    obtain ⟨hk, h'⟩ := bif_elim h'
    rw [he] at h'
    unfold Oper.wp
    rw [execOp_agree ha' (served_eff h') hk]
    refine effV_sound h' fun v w' hv => ?_
    obtain ⟨h1, h2⟩ := hSb _ _ ho he _ _ hv
    refine ⟨?_, hrest res' _ _ w' (ha'.put (dstIn_lt hdi) v) (hF _ o a v ho hf) ?_ h2⟩
    · simp only [Cond, ho, he, if_true]; exact fun ht _ => h1 ht
    · cases hc : tail.contains j with
      | false => exact .inl (h1 hc)
      | true => exact .inr (done hc)
  | skip env' ha' hw h' =>
    rw [if_neg (by rw [hw]; simp)]
    refine ⟨?_, hrest res' _ _ w (ha'.put (dstIn_lt hdi) undef) (hF _ o a undef ho hf) (hS.imp id mono) h'⟩
    simp only [Cond, ho, he, if_true]; exact fun _ h => h

theorem fork_sound (hm : P.follows .mixedOrders = true) {nt id : Nat} {ops : Array Oper} {pre : List Nat} {i j : Nat} {r1 r2 tail : List Nat} {K : Env → World → Prop} {env : Env} {a : Act} {w : World} {Q : Exit → Act → World → Prop}
    (hd : ops.toList.all (dstIn nt) = true) (hp : forkOk ops pre i j r1 r2 tail = true) (ha : Agree nt a env) (hQp : ∀ c a w, ¬ Q (.panic c) a w) (hQ : ∀ env a' w, Agree nt a' env → Frm (ops.toList.filterMap (·.dst)) a a' → K env w → Q .normal a' w)
    (h : ∃ S : World → Prop, S w.drew ∧
        opsV P (fun φ _ => ∀ w, S w → φ w) (fun i p w'' => bif tail.contains i then p else S w'' ∧ p) [] ops.toList (fun env' w' =>
          opsV P (fun φ _ => ∀ w, S w → φ w) (fun i p w'' => bif tail.contains i then p else S w'' ∧ p) [] ops.toList K (i :: r1) [] env' w' ∧
          opsV P (fun φ _ => ∀ w, S w → φ w) (fun i p w'' => bif tail.contains i then p else S w'' ∧ p) [] ops.toList K (j :: r2) [] env' w') pre [] env w.drew) : (Code.region id ops true).wp P Q a w := by
  unfold forkOk at hp
  simp only [Bool.and_eq_true] at hp
  obtain ⟨⟨⟨⟨hl, hl2⟩, h1⟩, h2⟩, h3⟩ := hp
  have hl := Nat.eq_of_beq_eq_true hl
  have hl2 := Nat.eq_of_beq_eq_true hl2
  refine wp_region_any hm ?_
  change wpAny P .any ops Q ops.size (Array.replicate ops.size false) a w.drew
  obtain ⟨S, hS, h⟩ := h
  have hAt : ∀ (φ : World → Prop) (w : World), S w → (∀ w, S w → φ w) → ∀ w', S w' → φ w' := fun φ w1 _ hφ w2 e2 => hφ w2 e2
  have hSb : ∀ i o, ops[i]? = some o → isEff o.op = true → ∀ (p : Prop) w', (bif tail.contains i then p else S w' ∧ p) → (tail.contains i = false → S w') ∧ p := by
    intro i o ho he p w' hp
    cases hc : tail.contains i with
    | true => rw [hc] at hp; exact ⟨(fun e => by cases e), hp⟩
    | false => rw [hc] at hp; exact ⟨fun _ => hp.1, hp.2⟩
  have hF : ∀ (i : Nat) (o : Oper) a' v, ops[i]? = some o → Frm (ops.toList.filterMap (·.dst)) a a' → Frm (ops.toList.filterMap (·.dst)) a (a'.put o.dst v) := fun i o a' v ho h => h.put ho
  have hlen : ops.size = pre.length + (r1.length + 1) := hl.symm
  conv => arg 5; rw [hlen]
  refine anyC_wpAny _ _ _ _ (opsV_anyE (F := Frm (ops.toList.filterMap (·.dst)) a) hF (S := S) (tail := tail) hAt (fun w => atOk_all S) hSb h1 h3 hd hQp (n := r1.length + 1) ?_ pre _ [] env a w.drew (by simp) h2 ha (Frm.refl _ _) (.inl hS) h)
  intro listed env' a' w' hE hls ha' hf' hS' hK
  unfold forkAt at hE
  simp only [Bool.and_eq_true] at hE
  obtain ⟨⟨⟨⟨hr, hi⟩, hj⟩, hp1⟩, hp2⟩ := hE
  have hrd : Region.ready .any ops listed = [i, j] := by
    cases hre : Region.ready .any ops listed with
    | nil => rw [hre] at hr; cases hr
    | cons x t =>
      cases t with
      | nil => rw [hre] at hr; cases hr
      | cons y t' =>
        cases t' with
        | nil =>
          rw [hre] at hr
          simp only [Bool.and_eq_true] at hr
          rw [Nat.eq_of_beq_eq_true hr.1, Nat.eq_of_beq_eq_true hr.2]
        | cons _ _ => rw [hre] at hr; cases hr
  refine ⟨(fun h0 => by rw [hrd] at h0; cases h0), fun k hk => ?_⟩
  have hk' := hk
  rw [hrd] at hk
  have rest : ∀ (k : Nat) (r : List Nat), r.length = r1.length → planGo ops r (listed.setIfInBounds k true) = true → ∀ res' env' a' w', Agree nt a' env' → Frm (ops.toList.filterMap (·.dst)) a a' → (S w' ∨ readsDone ops (listed.setIfInBounds k true)) →
      opsV P (fun φ _ => ∀ w, S w → φ w) (fun i p w'' => bif tail.contains i then p else S w'' ∧ p) [] ops.toList K r res' env' w' → anyC P .any ops Q (Cond ops tail S) r1.length (listed.setIfInBounds k true) a' w' := by
    intro k r hrl hpk res' env' a' w' ha' hf' hS' h'
    rw [← hrl]
    exact opsV_any (F := Frm (ops.toList.filterMap (·.dst)) a) hF (S := S) (tail := tail) hAt (fun w => atOk_all S) hSb h1 h3 hd hQp (fun env a'' w ha hf hK => hQ env a'' w ha hf hK) r _ res' env' a' w' (by simpa using hls) hpk ha' hf' hS' h'
  rcases List.mem_cons.1 hk with rfl | hk
  · exact eff_step hF hSb h3 hd hi hk' hls ha' hf' hS' hK.1 (rest k r1 rfl hp1)
  · have hk := List.mem_singleton.1 hk
    subst hk
    exact eff_step hF hSb h3 hd hj hk' hls ha' hf' hS' hK.2 (rest k r2 hl2.symm hp2)

theorem V_sound (hm : P.follows .mixedOrders = true) {nt : Nat} : ∀ (c : Code) (an : An) (Q : Ex → Env → World → Prop) (env : Env) (a : Act) (w : World),
    dstsOk nt c = true → Agree nt a env → V P c an Q env w → c.wp P (QA nt (writes c) a Q) a w
  | .skip, an, Q, env, a, w, _, ha, h => wp_skip ⟨Frm.refl _ _, env, ha, by simpa [V] using h⟩
  | .ret, an, Q, env, a, w, _, ha, h => wp_ret ⟨Frm.refl _ _, env, ha, by simpa [V] using h⟩
  | .exit i, an, Q, env, a, w, _, ha, h => wp_exit ⟨Frm.refl _ _, env, ha, by simpa [V] using h⟩
  | .seq x y, .sq m n, Q, env, a, w, hd, ha, h => by
    simp only [dstsOk, Bool.and_eq_true] at hd
    simp only [V] at h
    refine wp_seq (wp_mono (V_sound hm x m _ env a w hd.1 ha h) ?_)
    intro e a' w' hq
    have up : ∀ b, Frm (writes x) a b → Frm (writes (x.seq y)) a b := fun b hb => hb.mono fun t ht => by simp [writes, ht]
    cases e with
    | normal =>
      obtain ⟨hf, env', ha', h'⟩ := hq
      exact wp_mono (V_sound hm y n Q env' a' w' hd.2 ha' h') fun e a2 w2 hq2 => hq2.mono fun b hb => hf.trans hb
    | exit i => exact ⟨up _ hq.1, hq.2⟩
    | ret => exact ⟨up _ hq.1, hq.2⟩
    | goto l => exact hq
    | panic c => exact hq
    | outgrown => exact hq
  | .seq x y, .sn L m n, Q, env, a, w, hd, ha, h => by
    simp only [dstsOk, Bool.and_eq_true] at hd
    simp only [V] at h
    refine wp_seq (wp_mono (V_sound hm x m _ env a w hd.1 ha h) ?_)
    intro e a' w' hq
    have up : ∀ b, Frm (writes x) a b → Frm (writes (x.seq y)) a b := fun b hb => hb.mono fun t ht => by simp [writes, ht]
    cases e with
    | normal =>
      obtain ⟨hf, env', ha', h'⟩ := hq
      obtain ⟨e2, ha2, h2⟩ := appC_lamC (Agree.empty ha') ha' h'
      exact wp_mono (V_sound hm y n Q e2 a' w' hd.2 ha2 h2) fun e a2 w2 hq2 => hq2.mono fun b hb => hf.trans hb
    | exit i => exact ⟨up _ hq.1, hq.2⟩
    | ret => exact ⟨up _ hq.1, hq.2⟩
    | goto l => exact hq
    | panic c => exact hq
    | outgrown => exact hq
  | .cond c x y, .cd m n, Q, env, a, w, hd, ha, h => by
    simp only [dstsOk, Bool.and_eq_true] at hd
    simp only [V] at h
    split at h
    · rename_i t hc
      have hev : a.eval c = .bool t := by
        cases c with
        | tmp s => rw [ha.eval (x := .tmp s) (known_of_look (by show look env s ≠ _; rw [show look env s = .bool t from hc]; intro e; cases e))]; exact hc
        | const v => exact hc
        | global g => exact hc
        | func f => exact hc
      exact wp_cond_split hev
        (fun e => wp_mono (V_sound hm x m Q env a w hd.1 ha (by rw [e] at h; exact h)) fun e a2 w2 hq2 => hq2.mono fun b hb => hb.mono fun t ht => by simp [writes, ht])
        (fun e => wp_mono (V_sound hm y n Q env a w hd.2 ha (by rw [e] at h; exact h)) fun e a2 w2 hq2 => hq2.mono fun b hb => hb.mono fun t ht => by simp [writes, ht])
    · exact h.elim
  | .cond c x y, .cj L m n, Q, env, a, w, hd, ha, h => by
    simp only [dstsOk, Bool.and_eq_true] at hd
    simp only [V] at h
    split at h
    · rename_i t hc
      have hev : a.eval c = .bool t := by
        cases c with
        | tmp s => rw [ha.eval (x := .tmp s) (known_of_look (by show look env s ≠ _; rw [show look env s = .bool t from hc]; intro e; cases e))]; exact hc
        | const v => exact hc
        | global g => exact hc
        | func f => exact hc
      obtain ⟨J, hi, h1⟩ := h
      have fin : ∀ (ws : List Nat), (∀ t, t ∈ ws → t ∈ writes x ++ writes y) → ∀ (e : Exit) (a' : Act) (w' : World), QA nt ws a (fun e env' w' => match e with | .nrm => appC L env' J w' | .ext i => Q (.ext i) env' w' | .ret => Q .ret env' w') e a' w' → QA nt (writes x ++ writes y) a Q e a' w' := fun ws hws e a' w' hq0 => by
        have hq := hq0.mono (ws' := writes x ++ writes y) (a1 := a) fun b hb => hb.mono hws
        cases e with
        | normal => obtain ⟨hf, env', ha', h'⟩ := hq; exact ⟨hf, join_app ha hf hi ha' h'⟩
        | exit i => exact hq
        | ret => exact hq
        | goto l => exact hq
        | panic c => exact hq
        | outgrown => exact hq
      exact wp_cond_split hev (fun e => wp_mono (V_sound hm x m _ env a w hd.1 ha (by rw [e] at h1; exact h1)) (fin _ fun t ht => by simp [ht])) (fun e => wp_mono (V_sound hm y n _ env a w hd.2 ha (by rw [e] at h1; exact h1)) (fin _ fun t ht => by simp [ht]))
    · exact h.elim
  | .block i c, .bk L m, Q, env, a, w, hd, ha, h => by
    simp only [dstsOk] at hd
    simp only [V] at h
    obtain ⟨J, hi, h⟩ := h
    refine wp_block (wp_mono (V_sound hm c m _ env a w hd ha h) ?_)
    intro e a' w' hq
    cases e with
    | normal => obtain ⟨hf, env', ha', h'⟩ := hq; exact ⟨hf, join_app ha hf hi ha' h'⟩
    | exit j =>
      obtain ⟨hf, env', ha', h'⟩ := hq
      simp only [Exit.inBlock]
      replace h' : bif Nat.beq j i then appC L env' J w' else Q (.ext j) env' w' := h'
      cases hb : Nat.beq j i with
      | true => rw [hb] at h'; rw [if_pos (Nat.eq_of_beq_eq_true hb)]; exact ⟨hf, join_app ha hf hi ha' h'⟩
      | false => rw [hb] at h'; rw [if_neg (fun e => by subst e; simp at hb)]; exact ⟨hf, env', ha', h'⟩
    | ret => exact hq
    | goto l => exact hq
    | panic c => exact hq
    | outgrown => exact hq
  | .loop c, .lp L m, Q, env, a, w, hd, ha, h => by
    simp only [dstsOk] at hd
    simp only [V] at h
    obtain ⟨J, ⟨n₀, h0⟩, hr⟩ := h
    refine wp_loop_ghost (fun n a' w => Frm (writes c) a a' ∧ ∃ env, Agree nt a' env ∧ appC L env (J n) w) n₀ ⟨Frm.refl _ _, env, ha, h0⟩ ?_
    rintro n a1 w1 ⟨hf1, env1, ha1, h1⟩
    obtain ⟨e2, ha2, h2⟩ := appC_lamC (hf1.keep ha ha1) ha1 (appC_impC (hr n) h1)
    refine wp_mono (V_sound hm c m _ e2 a1 w1 hd ha2 h2) ?_
    intro e a' w' hq0
    have hq := hq0.mono (ws' := writes c) (a1 := a) fun b hb => hf1.join hb
    cases e with
    | normal =>
      obtain ⟨hf, env', ha', h'⟩ := hq
      obtain ⟨k, hk, h'⟩ := appC_ltC h'
      exact ⟨k, hk, hf, env', ha', h'⟩
    | exit j => exact hq
    | ret => exact hq
    | goto l => exact hq
    | panic c => exact hq
    | outgrown => exact hq
  | .region id ops false, .lf hs, Q, env, a, w, hd, ha, h => by
    simp only [dstsOk] at hd
    simp only [V] at h
    refine wp_region ?_
    have := opsV_wpOps (P := P) (Q := QA nt (ops.toList.filterMap (·.dst)) a Q) (F := Frm (ops.toList.filterMap (·.dst)) a) hd (fun i o a' v ho h => h.put ho) (fun env a' w ha hf hK => ⟨hf, env, ha, hK⟩) _ _ env a w ha (Frm.refl _ _) h
    simpa [writes] using this
  | .region id ops false, .rj hs L, Q, env, a, w, hd, ha, h => by
    simp only [dstsOk] at hd
    simp only [V] at h
    obtain ⟨J, hi, h⟩ := h
    refine wp_region ?_
    have := opsV_wpOps (P := P) (Q := QA nt (ops.toList.filterMap (·.dst)) a Q) (F := Frm (ops.toList.filterMap (·.dst)) a) hd (fun i o a' v ho h => h.put ho) (fun env' a' w ha' hf hK => ⟨hf, join_app ha hf hi ha' hK⟩) _ _ env a w ha (Frm.refl _ _) h
    simpa [writes] using this
  | .region id ops true, .dr plan tail gen L, Q, env, a, w, hd, ha, h => by
    simp only [dstsOk] at hd
    simp only [V] at h
    obtain ⟨hp, h⟩ := bif_elim h
    cases L with
    | none => exact draw_sound hm hd hp ha (fun _ _ _ h => h) (fun env a w ha hf hK => ⟨hf, env, ha, hK⟩) h
    | some L =>
      obtain ⟨J, hi, h⟩ := h
      exact draw_sound hm hd hp ha (fun _ _ _ h => h) (fun env' a' w ha' hf hK => ⟨hf, join_app ha hf hi ha' hK⟩) h
  | .region id ops true, .df pre i j r1 r2 tail L, Q, env, a, w, hd, ha, h => by
    simp only [dstsOk] at hd
    simp only [V] at h
    obtain ⟨hp, h⟩ := bif_elim h
    obtain ⟨J, hi, h⟩ := h
    exact fork_sound hm hd hp ha (fun _ _ _ h => h) (fun env' a' w ha' hf hK => ⟨hf, join_app ha hf hi ha' hK⟩) h

theorem agree_params {nt : Nat} (args : List Value) (h : args.length ≤ nt) :
    Agree nt { tmps := args.toArray ++ Array.replicate (nt - args.toArray.size) undef, defers := [] } (params 0 args) := by
  have key : ∀ (l : List Value) (i t : Nat), known (params i l) t = true → i ≤ t ∧ t < i + l.length ∧ l[t - i]? = some (look (params i l) t) := by
    intro l
    induction l with
    | nil => intro i t h; cases h
    | cons v r ih =>
      intro i t h
      by_cases e : i = t
      · subst e; simp [params, look_cons_same]
      · simp only [params] at h ⊢
        rw [known_cons_other _ _ e] at h
        rw [look_cons_other _ _ e]
        obtain ⟨h1, h2, h3⟩ := ih _ _ h
        refine ⟨by omega, by simp; omega, ?_⟩
        rw [show t - i = (t - (i + 1)) + 1 from by omega]
        simpa using h3
  refine ⟨rfl, by simp; omega, fun t ht => ?_⟩
  obtain ⟨_, h2, h3⟩ := key args 0 t ht
  simp only [Nat.zero_add, Nat.sub_zero] at h2 h3
  rw [Array.getElem?_append_left (by simpa using h2)]
  simpa using h3

def resM (tmps : Array Value) (x : ResultVar) : Sem Value :=
  match x with
  | .tmp t => pure (tmps.getD t undef)
  | .cell c t => do loadVar t (← asAddr (tmps.getD c undef))
theorem results_resM (fn : Func) (tmps : Array Value) : results fn tmps = (do
    let vs ← fn.results.mapM (resM tmps)
    pure (if h : vs.size = 1 then vs[0] else .tuple vs)) := rfl
theorem resV_sound {nt : Nat} {a : Act} {env : Env} (ha : Agree nt a env) : ∀ (l : List ResultVar) (K : List Value → World → Prop) (w : World), resV P env l K w →
    ∃ vs, vs.length = l.length ∧ (l.mapM (resM a.tmps)).run P w = .ok vs w ∧ K vs w
  | [], K, w, h => ⟨[], rfl, rfl, h⟩
  | .tmp t :: r, K, w, h => by
    unfold resV at h
    obtain ⟨hk, h⟩ := bif_elim h
    obtain ⟨vs, hl, hr, h⟩ := resV_sound ha r _ w h
    have := ha.slots t hk
    refine ⟨look env t :: vs, by simp [hl], ?_, h⟩
    have e : (resM a.tmps (.tmp t)).run P w = .ok (look env t) w := by simp [resM, this]
    simp only [List.mapM_cons, Sem.run_bind, e, hr, Result.andThen_ok, Sem.run_pure]
  | .cell c t :: r, K, w, h => by
    unfold resV at h
    split at h
    · rename_i b o hc
      obtain ⟨v, h1, h2⟩ := loadV_sound (atOk_here w) h
      obtain ⟨vs, hl, hr, h⟩ := resV_sound ha r _ w h2
      have hk : known env c = true := known_of_look (by rw [hc]; intro e; cases e)
      have := ha.slots c hk
      refine ⟨v :: vs, by simp [hl], ?_, h⟩
      have e : (resM a.tmps (.cell c t)).run P w = .ok v w := by simp [resM, this, hc, asAddr, h1]
      simp only [List.mapM_cons, Sem.run_bind, e, hr, Result.andThen_ok, Sem.run_pure]
    · exact h.elim

/-- THE CALCULUS' THEOREM: what it asks of a function's body is enough for the call. -/
theorem funV_calls (hm : P.follows .mixedOrders = true) {f : FuncId} {fn : Func} (hf : P.funcs[f]? = some fn) {an : An} {args : List Value} {R : Value → World → Prop} {w : World}
    (h : funV P fn an args R w) : Calls P f args.toArray w fun e w' => ∃ v, e = .returned v ∧ R v w' := by
  unfold funV at h
  split at h
  · rename_i c hb
    obtain ⟨hd, h⟩ := bif_elim h
    simp only [Bool.and_eq_true] at hd
    have hle := Nat.le_of_ble_eq_true hd.2
    refine calls_of_wp hf hb (wp_mono (V_sound hm c an _ _ _ w hd.1 (agree_params args hle) h) ?_)
    have fin : ∀ (a : Act) (w : World) (env : Env), Agree fn.ntmps a env → resV P env fn.results.toList (fun vs w => R (oneOrTup vs) w) w →
        a.defers = [] ∧ ∃ v, (results fn a.tmps).run P w = .ok v w ∧ (∃ u, Ending.returned v = .returned u ∧ R u w) := fun a w env ha hr => by
      obtain ⟨vs, hl, h1, h2⟩ := resV_sound ha _ _ _ hr
      refine ⟨ha.defers, oneOrTup vs, ?_, _, rfl, h2⟩
      rw [results_resM, Sem.run_bind, Array.mapM_eq_mapM_toList]
      simp only [Sem.run_map, h1, Result.andThen_ok]
      match vs with
      | [] => rfl
      | [v] => rfl
      | _ :: _ :: _ => rfl
    intro e a' w' hq
    cases e with
    | normal => obtain ⟨_, env, ha, hr⟩ := hq; exact fin a' w' env ha hr
    | ret => obtain ⟨_, env, ha, hr⟩ := hq; exact fin a' w' env ha hr
    | exit i => obtain ⟨_, _, _, hr⟩ := hq; exact hr.elim
    | goto l => exact hq.elim
    | panic c => exact hq.elim
    | outgrown => exact hq.elim
  · exact h.elim
end Go.VC
