/- Walks over values that are all known: slices that are made, appended, and functions walked in place. -/
import Derived.Test.YtflopnlnogjaoaaV15
set_option linter.unusedVariables false
set_option linter.unusedSimpArgs false
namespace Go.V
open Go Go.RowKit

variable {P : Program} {n : Nat} {f : F} {m : M} {Q : AQ} {ops : Array Oper} {rest : List Oper} {ty : TypeId} {ev : Operand → AV}

/-- Rows, looked at. -/
def forceLL : List (List AV) → Option (List (List AV))
  | [] => some []
  | a :: r => match forceL a, forceLL r with
    | some a', some r' => some (a' :: r')
    | _, _ => none
theorem forceLL_eq : ∀ {l l' : List (List AV)}, forceLL l = some l' → l = l'
  | [], l', h => by cases h; rfl
  | a :: r, l', h => by
    cases h1 : forceL a with
    | none => simp [forceLL, h1] at h
    | some a' => cases h2 : forceLL r with
      | none => simp [forceLL, h1, h2] at h
      | some r' => simp [forceLL, h1, h2] at h; rw [← h, forceL_eq h1, forceLL_eq h2]
section
variable {d : Option Nat} {pos : String} {after : Array Edge} {t : TypeId} {x s : Operand}
theorem AL.bs {e sz bytes len : Nat} {parts : Array (Nat × Operand)} {z : AV} {rows : List (List AV)} [ht : SliceT P t e] [hsz : Sz P e sz bytes] [hz : ZeroT P e z]
    (hzl : Nat.beq (cellsOf z).length sz = true) (hzok : okCells z = true) (hpos : Nat.blt 0 sz = true) (hlen : Nat.ble (len * sz) 16777216 = true)
    (ha : (afill (fun i => some (i * sz, sz)) ((List.replicate len (cellsOf z)).flatten) (parts.toList.map (fun p => (p.1, evF f p.2)))).bind (fun cells => forceLL (chunk sz len cells)) = some rows) (hin : opsIn n (.buildSlice t len parts) = true)
    (h : ∀ g, AL P n ops Q rest (updO f d (.vec g)) ((g, .vec e sz rows) :: m)) : AL P n ops Q (⟨d, .buildSlice t len parts, ty, pos, after, none⟩ :: rest) f m := by
  cases hc : afill (fun i => some (i * sz, sz)) ((List.replicate len (cellsOf z)).flatten) (parts.toList.map (fun p => (p.1, evF f p.2))) with
  | none => simp [hc] at ha
  | some cells =>
    simp only [hc, Option.bind_some] at ha
    exact AL.buildSlice rfl (Nat.eq_of_beq_eq_true hzl) hzok (by simpa using hpos) (Nat.le_of_ble_eq_true hlen) hc (forceLL_eq ha) hin h
/-- What is appended to nil. -/
theorem AL.apn {tx e sz bytes : Nat} {xv z : AV} {rows rows' : List (List AV)} [ht : SliceT P t e] [hsz : Sz P e sz bytes] [hz : ZeroT P e z]
    (hs : evF f s = .nilsl) (hx : evF f x = xv) (hsrc : ASrc P m tx sz xv rows) (hzl : Nat.beq (cellsOf z).length sz = true) (hzok : okCells z = true) (hlen : Nat.ble (rows.length * bytes) 140737488355328 = true) (hlen2 : Nat.ble rows.length 9223372036854775807 = true) (hr : forceLL rows = some rows')
    (hin : opsIn n (.call { callee := .builtin .append, args := #[s, x], argTypes := #[t, tx] }) = true)
    (h : ∀ g, AL P n ops Q rest (updO f d (.vec g)) ((g, .vec e sz rows') :: m)) : AL P n ops Q (⟨d, .call { callee := .builtin .append, args := #[s, x], argTypes := #[t, tx] }, ty, pos, after, none⟩ :: rest) f m := by
  obtain rfl := forceLL_eq hr
  exact AL.append hs hx .nil hsrc (Nat.eq_of_beq_eq_true hzl) hzok (by simpa using Nat.le_of_ble_eq_true hlen) (by simpa using Nat.le_of_ble_eq_true hlen2) hin (fun g => by simpa using h g)
/-- What is appended to an owned slice. -/
theorem AL.apv {tx e sz bytes g0 : Nat} {xv z : AV} {rows0 rows rows' : List (List AV)} {mr : M} [ht : SliceT P t e] [hsz : Sz P e sz bytes] [hz : ZeroT P e z] [hk : Tk m g0 (.vec e sz rows0) mr]
    (hs : evF f s = .vec g0) (hx : evF f x = xv) (hsrc : ASrc P m tx sz xv rows) (hzl : Nat.beq (cellsOf z).length sz = true) (hzok : okCells z = true) (hlen : Nat.ble ((rows0.length + rows.length) * bytes) 140737488355328 = true) (hlen2 : Nat.ble (rows0.length + rows.length) 9223372036854775807 = true) (hr : forceLL (rows0 ++ rows) = some rows')
    (hin : opsIn n (.call { callee := .builtin .append, args := #[s, x], argTypes := #[t, tx] }) = true)
    (h : ∀ g, AL P n ops Q rest (updO f d (.vec g)) ((g, .vec e sz rows') :: mr)) : AL P n ops Q (⟨d, .call { callee := .builtin .append, args := #[s, x], argTypes := #[t, tx] }, ty, pos, after, none⟩ :: rest) f m := by
  refine AL.append hs hx (.vec hk.out) hsrc (Nat.eq_of_beq_eq_true hzl) hzok (Nat.le_of_ble_eq_true hlen) (Nat.le_of_ble_eq_true hlen2) hin (fun g => ?_)
  rw [forceLL_eq hr]; exact h g
/-! ## Functions walked in place -/
/-- What is gone on with behind a call. -/
def inlR (P : Program) (n : Nat) (ops : Array Oper) (Q : AQ) (rest : List Oper) (f : F) (d : Option Nat) : AOut → M → Prop
  | .ret v, m => AL P n ops Q rest (updO f d v) m
  | .pan v, m => Q (.panic v) f m
theorem AL.inl' {fid : FuncId} {fn : Func} {c : Code} {rs : List ResultVar} {n' : Nat} {fx : Operand} {xs : Array Operand} {ts : Array TypeId} {af ac args : List AV} [FnT P fid]
    (hf : P.funcs[fid]? = some fn) (hb : fn.body = some c) (hn : fn.ntmps = n') (hx : evF f fx = .fn (.func fid) af ac) (ha : forceL (af ++ xs.toList.map (evF f) ++ ac) = some args) (hin : opsIn n (.call { callee := .value fx, args := xs, argTypes := ts }) = true) (hal : Nat.ble args.length n' = true) (hrs : fn.results = rs.toArray) (hri : rsIn n' rs = true)
    (h : AW P n' c (bodyQ P rs (inlR P n ops Q rest f d)) (argF args) m) :
    AL P n ops Q (⟨d, .call { callee := .value fx, args := xs, argTypes := ts }, ty, pos, after, none⟩ :: rest) f m :=
  AL.cl (ms := m) (mr := []) hx (forceL_eq ha) hin (by simp) (ASpec.of_body hf hb hn (by simpa using hal) hrs hri h) (fun out m' h => by
    cases out with
    | ret v => simpa [inlR] using h
    | pan v => simpa [inlR] using h)
theorem retI {rs : List ResultVar} {vs : List AV} {f' : F} {m' : M} (h : aRes f' rs = some vs) (hk : AL P n ops Q rest (updO f d (outOf vs)) m') : bodyQ P rs (inlR P n ops Q rest f d) .ret f' m' := retQ h hk
theorem retI1 {t : Nat} {v : AV} {f' : F} {m' : M} (h : force (f' t) = some v) (hk : AL P n ops Q rest (updO f d v) m') : bodyQ P [.tmp t] (inlR P n ops Q rest f d) .ret f' m' :=
  retQ (vs := [v]) (by simp [aRes, h]) hk
theorem endI {rs : List ResultVar} {vs : List AV} {f' : F} {m' : M} (h : aRes f' rs = some vs) (hk : AL P n ops Q rest (updO f d (outOf vs)) m') : bodyQ P rs (inlR P n ops Q rest f d) .normal f' m' := endQ h hk
theorem endI0 {f' : F} {m' : M} (hk : AL P n ops Q rest (updO f d (.tuple [])) m') : bodyQ P [] (inlR P n ops Q rest f d) .normal f' m' := endQ (vs := []) rfl hk
theorem retI0 {f' : F} {m' : M} (hk : AL P n ops Q rest (updO f d (.tuple [])) m') : bodyQ P [] (inlR P n ops Q rest f d) .ret f' m' := retQ (vs := []) rfl hk
end
end Go.V
