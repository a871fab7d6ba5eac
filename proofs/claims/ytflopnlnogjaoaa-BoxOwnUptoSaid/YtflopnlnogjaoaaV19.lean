/- From the reading of a law's arguments to abstract values, and back to what the row asks. -/
import Derived.Test.YtflopnlnogjaoaaV18
import Derived.JoinedCond
import Derived.ProofKit
import Derived.ChangeSame
import Derived.WideKeyArgs
import Derived.Deep.Slices
import Derived.OpenShut
set_option linter.unusedVariables false
set_option linter.unusedSimpArgs false
namespace Go.V
open Go Go.RowKit Go.Deep

variable {P : Program}

/-! ## What is behind the call -/
theorem trodAll_stays {H : Type} {enc : TypeId × Value → H} {W W' : World} {sp : Nat → Bool} (hl : laidOutB P = true) : ∀ {ts : List TypeId} {vs : List Value} {ds : List (DataW H)} {ps : List MemPlace},
    (ts.all fun t => P.readableRec t && decide (t < P.types.size)) = true → DataW.TrodAll enc P W 0 (fun _ => true) true ts vs ds ps → (∀ p ∈ ps, W.sameAt W' p) → (∀ p ∈ ps, sp p.block = true) → DataW.TrodAll enc P W' 0 sp true ts vs ds ps
  | [], [], [], ps, _, h, _, _ => h
  | t :: ts, v :: vs, d :: ds, ps, hr, ⟨p, q, h1, h2, e⟩, hs, hp => by
    subst e
    simp only [List.all_cons, Bool.and_eq_true, decide_eq_true_eq] at hr
    exact ⟨p, q, WideElems.Trod_stays hl hr.1.1 hr.1.2 h1 (fun x hx => hs x (List.mem_append_left _ hx)) (fun x hx => hp x (List.mem_append_left _ hx)),
      trodAll_stays hl (by simpa using hr.2) h2 (fun x hx => hs x (List.mem_append_right _ hx)) (fun x hx => hp x (List.mem_append_right _ hx)), rfl⟩
  | [], _ :: _, _, _, _, h, _, _ => h.elim
  | [], [], _ :: _, _, _, h, _, _ => h.elim
  | _ :: _, [], _, _, _, h, _, _ => h.elim
  | _ :: _, _ :: _, [], _, _, h, _, _ => h.elim
theorem trodAll_bool {H : Type} {enc : TypeId × Value → H} {W : World} {base : Nat} {sp : Nat → Bool} {hd : Bool} {tb : TypeId} (htb : P.underlying tb = some .bool) (b : Bool) : DataW.TrodAll enc P W base sp hd [tb] [.bool b] [.lit (.bool b)] [] :=
  ⟨[], [], ⟨1, by simp [DataW.trod, htb, Value.cells]⟩, rfl, rfl⟩
/-- A law's row: true is told, and nothing that was there has turned. -/
theorem law_post {H : Type} {enc : TypeId × Value → H} {f : Func} {s : ChangeSpec} {apart fresh handsOn again : Bool} {W W' : World} {args : Array Value} {ds gs : List (DataW H)} {before : List MemPlace} {tb : TypeId}
    (hl : laidOutB P = true) (hr : (f.params.toList.all fun t => P.readableRec t && decide (t < P.types.size)) = true) (hv : s.vars = [])
    (hW : DataW.Whole enc P f.params.toList s.vars apart W args.toList ds gs before) (hfn : s.fn H (ds ++ gs) = { results := [.lit (.bool true)], args := ds }) (hrt : f.resultTypes = #[tb]) (htb : P.underlying tb = some .bool) (hb : Below W.heap.size W W') :
    s.post enc P f apart fresh handsOn again W args (.bool true) W' := by
  have hW0 := hW
  obtain ⟨p, q, hA, hV, he, hfz, hnd⟩ := hW
  rw [hv] at hV
  cases gs with
  | cons g gs => exact hV.elim
  | nil =>
  have hq : q = [] := hV
  subst hq
  have hbp : before = p := by simpa using he
  subst hbp
  have hlt := hW0.lt
  have hA' : ∀ sp : Nat → Bool, (∀ x ∈ before, sp x.block = true) → DataW.TrodAll enc P W' 0 sp true f.params.toList args.toList ds before := fun sp hsp => trodAll_stays hl hr hA (fun x hx => hb.same (hlt x hx)) hsp
  have hrl : (Value.bool true).resultList f.resultTypes.size = [.bool true] := by rw [hrt]; rfl
  refine ⟨ds, [], before, [], before, [], hW0, ?_, ?_, ?_, hb.frame _, fun _ => ⟨?_, .lit (.bool true) :: ds, [], before, ⟨before, [], ?_, ?_, ?_, ?_, ?_⟩, ?_⟩⟩
  · rw [hfn, hrl, hrt]; exact trodAll_bool htb true
  · rw [hfn]; exact hA' _ (fun x hx => by simpa using hlt x hx)
  · rw [hfn, hv]; rfl
  · intro j t' r hj hr
    rw [hrl] at hr
    rw [hrt] at hj
    match j, hj, hr with
    | 0, hj, hr =>
      simp at hj hr
      subst hj; subst hr
      simp [Value.okWide, htb, Cell.okWide, Cell.ok]
  · rw [hrl, hrt]
    exact ⟨[], before, ⟨1, by simp [DataW.trod, htb, Value.cells]⟩, hA' _ (fun _ _ => rfl), rfl⟩
  · rw [hv]; rfl
  · simp
  · intro b off hp
    rw [hb.frozen (hlt _ hp)]
    exact hfz b off hp
  · intro ha; exact hnd ha
  · intro x hx _; exact hx
/-! ## The call -/
def E0 (W : World) : Env := { I := fun c b => if c = 0 then W.heap[b]? else none, θ := fun _ => .nilFunc, n := 0 }
theorem E0_sat (W : World) : Sat (baseOf (E0 W) [] W) (E0 W) [] W where
  os := rfl
  tape := rfl
  output := rfl
  size := Nat.le_refl _
  keep := fun _ _ _ => rfl
  le := Env.le.refl _
  gro := fun c b o h => .inl h
  imm := fun c b o h => by
    simp only [E0] at h
    split at h
    · exact h
    · cases h
  obj := fun p hp => by cases hp
  own := fun p hp => by cases hp
  sep := .nil
  lt := fun p hp => by cases hp
  nm := fun p hp => by cases hp
theorem law_calls {fid : FuncId} {avs : List AV} {W : World} {vs : Array Value} (h : ASpec P fid avs [] (fun o m => o = .ret (.bool true) ∧ m = [])) (hr : Reps (E0 W) avs vs.toList) : Calls P fid vs W fun e W' => e = .returned (.bool true) ∧ Below W.heap.size W W' :=
  (h (E0 W) W vs (E0_sat W) hr).mono fun e W' ⟨E', m', out, hs, ho, h1, h2⟩ => by
    subst h1
    cases e with
    | returned v => cases ho; exact ⟨rfl, ⟨hs.os, hs.tape, hs.output, hs.size, fun k hk => hs.keep k hk (fun ⟨p, hp, _⟩ => by cases hp)⟩⟩
    | panicked => exact ho.elim
    | outgrown => exact ho.elim
/-! ## What the arguments are -/
/-- How much a reading holds. -/
structure Bulk (H : Type) where
  f : DataW H → Nat
  all : List (DataW H) → Nat
  str : ∀ s, f (.lit (.string s)) = s.length + 1
  one : ∀ d, 1 ≤ f d
  agg : ∀ l, f (.agg l) = all l + 1
  sl : ∀ a b, f (.slice a b) = all a + all b + 1
  nil : all [] = 0
  cons : ∀ d r, all (d :: r) = f d + all r
theorem Bulk.mem {H : Type} (k : Bulk H) : ∀ {l : List (DataW H)} {d : DataW H}, d ∈ l → k.f d ≤ k.all l
  | x :: r, d, h => by
    rw [k.cons]
    rcases List.mem_cons.1 h with rfl | h
    · omega
    · have := k.mem h; omega
theorem Bulk.length {H : Type} (k : Bulk H) : ∀ (l : List (DataW H)), l.length ≤ k.all l
  | [] => by simp
  | x :: r => by rw [k.cons]; have := k.length r; have := k.one x; simp only [List.length_cons]; omega
/-- What cells of a type are, by what is read of them: A, of the cells and of how much is read. -/
structure Opn (P : Program) (t : TypeId) (A : List AV → Nat → Prop) : Prop where
  out : ∀ (H : Type) (k : Bulk H) (enc : TypeId × Value → H) (W : World) (base : Nat) (sp : Nat → Bool) (hd : Bool) (fuel : Nat) (cs : List Value) (x : DataW H × List MemPlace), DataW.trod enc P W base sp hd fuel t cs = some x →
    ∃ l, A l (k.f x.1) ∧ Reps (E0 W) l cs ∧ ∀ v, v ∈ cs → v.oneCell' = true
theorem Opn.mono {t : TypeId} {A A' : List AV → Nat → Prop} (h : Opn P t A) (hA : ∀ l b, A l b → A' l b) : Opn P t A' := .mk fun H k enc W base sp hd fuel cs x hx =>
  let ⟨l, h1, h2⟩ := h.out H k enc W base sp hd fuel cs x hx; ⟨l, hA _ _ h1, h2⟩
theorem Opn.bool {t : TypeId} (ht : P.underlying t = some .bool) : Opn P t (fun l _ => ∃ b, l = [.bool b]) := .mk fun H k enc W base sp hd fuel cs x hx => by
  obtain ⟨b, rfl, rfl⟩ := DataW.trod_bool ht hx
  exact ⟨_, ⟨b, rfl⟩, .cons (.bool b) (.nil _), fun v hv => by obtain rfl := List.mem_singleton.1 hv; rfl⟩
theorem Opn.int {t : TypeId} {kd : IntKind} (ht : P.underlying t = some (.int kd)) : Opn P t (fun l _ => ∃ n, l = [.int kd n] ∧ (Lit.int kd n).wf = true) := .mk fun H k enc W base sp hd fuel cs x hx => by
  obtain ⟨n, rfl, rfl, hw⟩ := DataW.trod_int ht hx
  exact ⟨_, ⟨n, rfl, hw⟩, .cons (.int kd n) (.nil _), fun v hv => by obtain rfl := List.mem_singleton.1 hv; rfl⟩
theorem Opn.str {t : TypeId} (ht : P.underlying t = some .string) : Opn P t (fun l b => ∃ s : List UInt8, l = [.str s] ∧ s.length < b) := .mk fun H k enc W base sp hd fuel cs x hx => by
  obtain ⟨s, rfl, rfl, hw⟩ := DataW.trod_string ht hx
  refine ⟨_, ⟨s.data.toList, rfl, by rw [k.str]; omega⟩, .cons ?_ (.nil _), fun v hv => by obtain rfl := List.mem_singleton.1 hv; rfl⟩
  exact .str s.data.toList
theorem Opn.slice {t e : TypeId} {sz : Nat} {A : List AV → Nat → Prop} (ht : P.underlying t = some (.slice e)) (hsz : P.cellsOf e = sz) (hpos : 0 < sz) (h : Opn P e A) :
    Opn P t (fun l b => ∃ rows : List (List AV), l = [.sl 0 sz rows] ∧ rows.length < b ∧ ∀ r, r ∈ rows → ∃ b', b' < b ∧ A r b') := .mk fun H k enc W base sp hd fuel cs x hx => by
  subst hsz
  rcases open_slice ht hx with ⟨rfl, rfl⟩ | ⟨a, len, cap, m, n, D, Pl, rfl, hb, hl, hm, hmm, rfl, hel⟩
  · exact ⟨_, ⟨[], rfl, k.one _, fun r hr => by cases hr⟩, .cons (.slnil _ _ _ _ (fun _ => rfl) (by decide)) (.nil _), fun v hv => by obtain rfl := List.mem_singleton.1 hv; rfl⟩
  have hlm : len ≤ m := by rw [hmm]; split <;> omega
  have hel' : ∀ i, ∃ (r : List AV) (cs' : List Value), i < len → W.cells? base (a.add (i * P.cellsOf e)) (P.cellsOf e) = some cs' ∧ A r (k.f (D i)) ∧ Reps (E0 W) r cs' ∧ ∀ v, v ∈ cs' → v.oneCell' = true := fun i => by
    by_cases hi : i < len
    · obtain ⟨cs', h1, h2⟩ := hel i (by omega)
      obtain ⟨r, h3, h4, h5⟩ := h.out H k enc W base sp hd n cs' _ h2
      exact ⟨r, cs', fun _ => ⟨h1, h3, h4, h5⟩⟩
    · exact ⟨[], [], fun h => absurd h hi⟩
  have hcr : ∃ (R : Nat → List AV) (C : Nat → List Value), ∀ i, i < len → W.cells? base (a.add (i * P.cellsOf e)) (P.cellsOf e) = some (C i) ∧ A (R i) (k.f (D i)) ∧ Reps (E0 W) (R i) (C i) ∧ ∀ v, v ∈ C i → v.oneCell' = true :=
    ⟨fun i => Classical.choose (hel' i), fun i => Classical.choose (Classical.choose_spec (hel' i)), fun i hi => Classical.choose_spec (Classical.choose_spec (hel' i)) hi⟩
  obtain ⟨R, C, hRC⟩ := hcr
  refine ⟨[.sl 0 (P.cellsOf e) ((List.range len).map R)], ⟨(List.range len).map R, rfl, ?_, fun r hr => ?_⟩, .cons ?_ (.nil _), fun v hv => by obtain rfl := List.mem_singleton.1 hv; rfl⟩
  · have := k.length ((List.range len).map D)
    rw [k.sl]
    simp only [List.length_map, List.length_range] at this ⊢
    omega
  · obtain ⟨i, hi, rfl⟩ := List.mem_map.1 hr
    rw [List.mem_range] at hi
    refine ⟨k.f (D i), ?_, (hRC i hi).2.1⟩
    rw [k.sl]
    have := k.mem (l := (List.range len).map D) (d := D i) (List.mem_map.2 ⟨i, List.mem_range.2 hi, rfl⟩)
    omega
  · by_cases h0 : len = 0
    · subst h0
      exact .slnil _ _ _ _ (fun h => by cases h) hm
    · have hpl : 0 < len := Nat.pos_of_ne_zero h0
      have hcell : ∀ i j, i < len → j < P.cellsOf e → W.cell? (a.add (i * P.cellsOf e + j)) = (C i)[j]? ∧ (C i).length = P.cellsOf e := fun i j hi hj => by
        obtain ⟨_, h2, h3⟩ := World.cells?_some (hRC i hi).1
        have := h3 j hj
        rw [add_add] at this
        exact ⟨this, h2⟩
      have h00 := hcell 0 0 hpl hpos
      have hC0 := h00.2
      rw [Nat.zero_mul, Nat.add_zero, List.getElem?_eq_getElem (by omega)] at h00
      obtain ⟨blk, T, fr, hblk, hsp⟩ : ∃ blk T fr, W.heap[a.block]? = some (.cells blk T fr) ∧ a.spot = none := by
        have h1 := h00.1
        have ha0 : a.add 0 = a := by unfold Addr.add; simp
        rw [ha0] at h1
        unfold World.cell? at h1
        cases hq : W.heap[a.block]? with
        | none => rw [hq] at h1; cases h1
        | some o =>
          rw [hq] at h1
          cases o with
          | cells c T fr =>
            cases hsp : a.spot with
            | none => exact ⟨c, T, fr, rfl, rfl⟩
            | some s => rw [hsp] at h1; cases h1
          | _ => cases h1
      obtain ⟨ab, ao, asp⟩ := a
      simp only at hblk hsp
      subst hsp
      have hget : ∀ i j, i < len → j < P.cellsOf e → blk[ao + (i * P.cellsOf e + j)]? = (C i)[j]? := fun i j hi hj => by
        have h1 := (hcell i j hi hj).1
        have ha : (⟨ab, ao, none⟩ : Addr).add (i * P.cellsOf e + j) = ⟨ab, ao + (i * P.cellsOf e + j), none⟩ := Addr.add_lit ..
        rw [ha] at h1
        rw [← h1]
        simp [World.cell?, hblk]
      have hdm : ∀ q, q < len * P.cellsOf e → q / P.cellsOf e < len ∧ q % P.cellsOf e < P.cellsOf e ∧ q / P.cellsOf e * P.cellsOf e + q % P.cellsOf e = q := fun q hq => by
        refine ⟨Nat.div_lt_of_lt_mul (by rw [Nat.mul_comm]; exact hq), Nat.mod_lt _ hpos, ?_⟩
        have := Nat.div_add_mod q (P.cellsOf e)
        rw [Nat.mul_comm] at this
        exact this
      have := Rep.sl (E := E0 W) 0 (P.cellsOf e) ((List.range len).map R) ab ao cap blk T fr (fun q => (C (q / P.cellsOf e)).getD (q % P.cellsOf e) undef) (by simpa [E0] using hblk) (by simpa using hl) hm
        (fun r hr => by
          obtain ⟨i, hi, rfl⟩ := List.mem_map.1 hr
          rw [List.mem_range] at hi
          rw [← (hRC i hi).2.2.1.1]
          exact (World.cells?_some (hRC i hi).1).2.1)
        (fun q hq => by
          obtain ⟨h1, h2, h3⟩ := hdm q (by simpa using hq)
          have h4 := hget _ _ h1 h2
          rw [h3] at h4
          rw [h4]
          have h5 := (hcell _ _ h1 h2).2
          simp [List.getD_eq_getElem?_getD, List.getElem?_eq_getElem (show q % P.cellsOf e < (C (q / P.cellsOf e)).length by omega)])
        (fun q hq => by
          obtain ⟨h1, h2, h3⟩ := hdm q (by simpa using hq)
          have h5 := (hcell _ _ h1 h2).2
          refine (hRC _ h1).2.2.2 _ ?_
          simp [List.getD_eq_getElem?_getD, List.getElem?_eq_getElem (show q % P.cellsOf e < (C (q / P.cellsOf e)).length by omega)])
        (fun i hi j hj => by
          have hi' : i < len := by simpa using hi
          have he : ((List.range len).map R)[i] = R i := by simp
          have hj' : j < (R i).length := by rw [he] at hj; exact hj
          have hjs : j < P.cellsOf e := by
            have := (hRC i hi').2.2.1.1
            have h5 := (World.cells?_some (hRC i hi').1).2.1
            omega
          have e1 : (i * P.cellsOf e + j) / P.cellsOf e = i := by rw [Nat.add_comm, Nat.add_mul_div_right _ _ hpos, Nat.div_eq_of_lt hjs, Nat.zero_add]
          have e2 : (i * P.cellsOf e + j) % P.cellsOf e = j := by rw [Nat.add_comm, Nat.add_mul_mod_self_right, Nat.mod_eq_of_lt hjs]
          simp only [e1, e2, he]
          exact (hRC i hi').2.2.1.2 j hj')
      simpa using this
/-- The fields of a struct of N cells, from a place on. -/
structure OpnF (P : Program) (N : Nat) (fs : List Field) (o : Nat) (A : List AV → Nat → Prop) : Prop where
  out : ∀ (H : Type) (k : Bulk H) (enc : TypeId × Value → H) (W : World) (base : Nat) (sp : Nat → Bool) (hd : Bool) (fuel : Nat) (cs : List Value) (xs : List (DataW H × List MemPlace)), cs.length = N → xs.length = fs.length →
    (∀ (i : Nat) (f : Field), fs[i]? = some f → DataW.trod enc P W base sp hd fuel f.type ((cs.drop f.offset).take (P.cellsOf f.type)) = xs[i]?) →
    ∀ b, k.all (xs.map (·.1)) < b → ∃ l, A l b ∧ Reps (E0 W) l (cs.drop o) ∧ ∀ v, v ∈ cs.drop o → v.oneCell' = true
theorem OpnF.nil {N : Nat} : OpnF P N [] N (fun l _ => l = []) := .mk fun H k enc W base sp hd fuel cs xs hl _ _ b _ => by
  have : cs.drop N = [] := by rw [← hl]; exact List.drop_length
  rw [this]
  exact ⟨[], rfl, .nil _, fun v hv => by cases hv⟩
theorem OpnF.cons {N o s : Nat} {f : Field} {fs : List Field} {A1 A2 : List AV → Nat → Prop} (ho : f.offset = o) (hs : P.cellsOf f.type = s) (h : Opn P f.type A1) (k2 : OpnF P N fs (o + s) A2) :
    OpnF P N (f :: fs) o (fun l b => ∃ l1 l2, l = l1 ++ l2 ∧ (∃ b', b' < b ∧ A1 l1 b') ∧ A2 l2 b) := .mk fun H k enc W base sp hd fuel cs xs hl hxl hx b hb => by
  cases xs with
  | nil => simp at hxl
  | cons x xs =>
    have h1 := hx 0 f rfl
    simp only [List.getElem?_cons_zero] at h1
    rw [ho, hs] at h1
    obtain ⟨l1, ha, hr, ho1⟩ := h.out H k enc W base sp hd fuel _ x h1
    rw [List.map_cons, k.cons] at hb
    obtain ⟨l2, ha2, hr2, ho2⟩ := k2.out H k enc W base sp hd fuel cs xs hl (by simpa using hxl) (fun i f' hf' => by simpa using hx (i + 1) f' (by simpa using hf')) b (by omega)
    have e : cs.drop o = (cs.drop o).take s ++ cs.drop (o + s) := by rw [← List.drop_drop, List.take_append_drop]
    refine ⟨l1 ++ l2, ⟨l1, l2, rfl, ⟨_, by omega, ha⟩, ha2⟩, ?_, fun v hv => ?_⟩
    · rw [e]; exact hr.append hr2
    · rw [e] at hv
      exact (List.mem_append.1 hv).elim (ho1 v) (ho2 v)
theorem Opn.struct {t : TypeId} {fs : Array Field} {N : Nat} {A : List AV → Nat → Prop} (ht : P.underlying t = some (.struct fs)) (hN : P.cellsOf t = N) (h : OpnF P N fs.toList 0 A) : Opn P t A := .mk fun H k enc W base sp hd fuel cs x hx => by
  obtain ⟨xs, n, _, rfl, hl, hxl, hf⟩ := DataW.trod_struct ht hx
  obtain ⟨l, h1, h2, h3⟩ := h.out H k enc W base sp hd n cs xs (hl.trans hN) (by simpa using hxl) (fun i f hi => hf i f (by simpa using hi)) (k.f (.agg (xs.map (·.1)))) (by rw [k.agg]; omega)
  exact ⟨l, h1, by simpa using h2, by simpa using h3⟩
/-! ## Arguments -/
theorem opn_arg {H : Type} {k : Bulk H} {enc : TypeId × Value → H} {W : World} {base : Nat} {sp : Nat → Bool} {hd : Bool} {t : TypeId} {A : List AV → Nat → Prop} {v : Value} {d : DataW H} {p : List MemPlace} (h : Opn P t A) (hT : DataW.Trod enc P W base sp hd t v d p) : ∃ l, A l (k.f d) ∧ Reps (E0 W) l v.cells.toList :=
  let ⟨fuel, hf⟩ := hT; let ⟨l, h1, h2, _⟩ := h.out H k enc W base sp hd fuel _ _ hf; ⟨l, h1, h2⟩
theorem arg_one {W : World} {r : Reach} {base : Nat} {t : TypeId} {td : TypeDesc} {v : Value} {a : AV} (ht : P.underlying t = some td) (hd : (match td with | .struct _ | .array _ _ => false | _ => true) = true) (hval : Value.okWide P W r base t v) (h : Reps (E0 W) [a] v.cells.toList) : Rep (E0 W) a v := by
  have hc : v.cells = #[v] := by
    cases v with
    | agg cs =>
      exfalso
      cases td <;> simp [Value.okWide, ht, Cell.okWide, Cell.ok] at hval hd
    | _ => rfl
  rw [hc] at h
  obtain ⟨u, r, e, h1, h2⟩ := h.cons_inv
  cases e
  exact h1
theorem arg_agg {W : World} {r : Reach} {base : Nat} {t : TypeId} {fs : Array Field} {v : Value} {l : List AV} (ht : P.underlying t = some (.struct fs)) (hval : Value.okWide P W r base t v) (h : Reps (E0 W) l v.cells.toList) : Rep (E0 W) (.agg l) v := by
  simp only [Value.okWide, ht] at hval
  obtain ⟨cs, rfl, _⟩ := hval
  exact Rep.agg_iff.2 ⟨cs, rfl, h⟩
end Go.V
