/- A part of the proof; the last text says what is proved. -/
import Derived.Test.YtflopnlnogjaoaaB6
namespace Go.Proofs.BX
open Go Go.V
set_option maxRecDepth 10000
set_option maxHeartbeats 4000000
/-- A letter that may be turned. -/
structure Lt where
  uid : Int
  flags : Int
  g : Nat
  bs : List Int
def ltC (d : Lt) : List AV := [.int .i64 d.uid, .int .u8 d.flags, .vec d.g]
def ltO (d : Lt) : Nat × AObj := (d.g, .vec 5 1 (d.bs.map fun n => [.int .u8 n]))
def Own.lt (d : Own) : Lt := ⟨d.uid, d.flags, d.g, d.bytes.map fun b => (b.toNat : Int)⟩
theorem lt_C (ds : List Own) : (ds.map Own.lt).map ltC = ds.map ownC := by rw [List.map_map]; rfl
theorem lt_O (ds : List Own) : (ds.map Own.lt).map ltO = ds.map ownO := by
  rw [List.map_map]
  refine List.map_congr_left (fun d _ => ?_)
  simp [ltO, Own.lt, ownO, bytesC, byteAV]
/-- What is told, as boxes that may be turned. -/
structure TB where
  nm : List UInt8
  a : Int
  b : Int
  g : Nat
  ds : List Lt
def tbC (t : TB) : List AV := [.str t.nm, .int .i64 t.a, .int .i64 t.b, .vec t.g]
def tbO (t : TB) : M := (t.g, .vec 29 3 (t.ds.map ltC)) :: t.ds.map ltO
theorem told_nil {fid : FuncId} {args r : List AV} {R : List AV → Prop} (h : ASpec Try.prog fid args [] (fun o m => ∃ (x : AV) (r : List AV), o = .ret (.tuple (x :: r)) ∧ R r ∧ Told x m)) :
    ASpec Try.prog fid args [] (fun o m => ∃ (t : TB) (r : List AV), o = .ret (.tuple (.agg (tbC t) :: r)) ∧ R r ∧ t.ds.length ≤ 140737488355328 ∧ m.Perm (tbO t)) := by
  intro E w vs hs hv
  refine (h E w vs hs hv).mono ?_
  rintro e w' ⟨E', m', out, h1, h2, x, r, rfl, hR, ht⟩
  rcases ht with ⟨rfl, rfl⟩ | ⟨g, ds, nm, a, b, rfl, hl, hm⟩
  · have hnew := h1.new (old := []) (mr := []) (w' := w') (by simp) (.slice none 0 0) (.vec 29 3 []) rfl rfl rfl (Nat.le_refl _) (fun _ _ _ => rfl) (fun b hb => by cases hb) ⟨(fun r hr => by cases hr), .inl ⟨Env.bind_θ _ _, rfl⟩⟩
    cases e with
    | returned v =>
      have hle := Env.bind_le E' (.slice none 0 0)
      refine ⟨_, _, .ret (.tuple (.agg (tbC ⟨[], 0, 0, E'.n, []⟩) :: r)), hnew, ?_, ⟨[], 0, 0, E'.n, []⟩, r, rfl, hR, by simp, List.Perm.refl _⟩
      have h2' : Rep E' (.tuple _) v := h2
      obtain ⟨us, rfl, hr⟩ := Rep.tuple_iff.1 h2'
      obtain ⟨v1, vr, hus, hv1, hvr⟩ := hr.cons_inv
      obtain ⟨cs, rfl, hcs⟩ := Rep.agg_iff.1 hv1
      obtain ⟨c1, r1, e1, k1, hcs⟩ := hcs.cons_inv
      obtain ⟨c2, r2, rfl, k2, hcs⟩ := hcs.cons_inv
      obtain ⟨c3, r3, rfl, k3, hcs⟩ := hcs.cons_inv
      obtain ⟨c4, r4, rfl, k4, hcs⟩ := hcs.cons_inv
      obtain rfl := hcs.nil_inv
      cases k4
      refine Rep.tuple_iff.2 ⟨us, rfl, ?_⟩
      rw [hus]
      refine .cons (Rep.agg_iff.2 ⟨cs, rfl, ?_⟩) (hvr.mono hle)
      rw [e1]
      refine .cons (k1.mono hle) (.cons (k2.mono hle) (.cons (k3.mono hle) (.cons ?_ (.nil _))))
      have := Rep.vec (E := E'.bind (.slice none 0 0)) E'.n (Nat.lt_succ_self _) (by rw [Env.bind_θ]; rfl)
      rwa [Env.bind_θ] at this
    | panicked => exact h2.elim
    | outgrown => exact h2.elim
  · refine ⟨E', m', _, h1, h2, ⟨nm, a, b, g, ds.map Own.lt⟩, r, rfl, hR, by simpa using hl, ?_⟩
    unfold tbO
    rw [lt_C, lt_O]
    exact hm
attribute [local irreducible] AW AL ASpec
theorem add_told (c : Nat) (b : Box) (fl : Int) (p : List UInt8) (hb : fitB b) (hb2 : (b.letters.length + 1) * 40 ≤ 140737488355328) (hp : p.length ≤ 140737488355328) : ASpec Try.prog 4 [boxA c b, .int .u8 fl, .sl c 1 (bytesC p)] [] (fun o m => ∃ (t : TB) (r : List AV), o = .ret (.tuple (.agg (tbC t) :: r)) ∧ (∃ n e : Int, r = [.int .i64 n, .int .i64 e]) ∧ t.ds.length ≤ 140737488355328 ∧ m.Perm (tbO t)) :=
  told_nil (r := []) ((add_calls c b fl p hb hb2 hp).mono fun o m ⟨x, n, e, h1, h2⟩ => ⟨x, _, h1, ⟨n, e, rfl⟩, h2⟩)
theorem flag_told (c : Nat) (b : Box) (u how fl : Int) (hb : fitB b) : ASpec Try.prog 5 [boxA c b, .int .i64 u, .int .i64 how, .int .u8 fl] [] (fun o m => ∃ (t : TB) (r : List AV), o = .ret (.tuple (.agg (tbC t) :: r)) ∧ (∃ e : Int, r = [.int .i64 e]) ∧ t.ds.length ≤ 140737488355328 ∧ m.Perm (tbO t)) :=
  told_nil (r := []) ((flag_calls c b u how fl hb).mono fun o m ⟨x, e, h1, h2⟩ => ⟨x, _, h1, ⟨e, rfl⟩, h2⟩)
theorem cut_told (c : Nat) (b : Box) (u : Int) (hb : fitB b) : ASpec Try.prog 6 [boxA c b, .int .i64 u] [] (fun o m => ∃ (t : TB) (r : List AV), o = .ret (.tuple (.agg (tbC t) :: r)) ∧ (∃ e : Int, r = [.int .i64 e]) ∧ t.ds.length ≤ 140737488355328 ∧ m.Perm (tbO t)) :=
  told_nil (r := []) ((cut_calls c b u hb).mono fun o m ⟨x, e, h1, h2⟩ => ⟨x, _, h1, ⟨e, rfl⟩, h2⟩)
end Go.Proofs.BX
