/- What the proofs on scripts share: the state of a script in memory. No statement of the seat is proved here. -/
import Derived.Test.YtgjllminidlolaaGreatDoorPlains
import Derived.Test.YtgjllminidlolaaGreatDoorSBase
import Derived.Test.YtgjllminidlolaaGreatDoorSWalkF
import Derived.Test.YtgjllminidlolaaGreatDoorPushAt
import Derived.Test.YtgjllminidlolaaGreatDoorShelf
set_option linter.unusedVariables false
namespace Go.Proofs.YtgjllminidlolaaGreatDoor
open Go.RowKit

def encS (s : ByteArray) : List Value := [.string s]
theorem encS_len (s : ByteArray) : (encS s).length = 1 := rfl
theorem encS_one (s : ByteArray) : ∀ u ∈ encS s, u.oneCell' = true := by
  intro u hu; simp [encS] at hu; subst hu; rfl
theorem info_str : (Tryz.prog.info? 9).map (fun i => (i.zero, i.size, i.bytes)) = some (some (.string ⟨#[]⟩), 1, 16) := by kernel_rfl
def encV (v : Value) : List Value := [v]
theorem encV_len (v : Value) : (encV v).length = 1 := rfl
theorem flat_encV (vs : List Value) : vs.flatMap encV = vs := by
  induction vs with
  | nil => rfl
  | cons x xs ih => rw [List.flatMap_cons, ih]; rfl
theorem flat_encS (xs : List ByteArray) : xs.flatMap encS = xs.map Value.string := by
  induction xs with
  | nil => rfl
  | cons x xs ih => simp [encS, ih]

def NoBad (bad : Nat → Prop) (v : Value) : Prop := ∀ j, v.ownBlock = some j → ¬ bad j
/-- The coaches of a script in memory. -/
def NetOwn (bad : Nat → Prop) (base : Nat) (W : World) (v : Value) (net : List (List T3)) : Prop :=
  ∃ vs : List Value, OwnE 1 encV 50 base W v vs ∧ NoBad bad v ∧ vs.length = net.length ∧
    ∀ (j : Nat) (u : Value) (xs : List T3), vs[j]? = some u → net[j]? = some xs → OwnE 3 enc3 103 base W u xs ∧ NoBad bad u
/-- The office of a script in memory. -/
def OffAt (R : Nat) (vr vc vb : Value) (W : World) : Prop :=
  W.cell? ⟨R, 0, none⟩ = some vr ∧ W.cell? ⟨R, 1, none⟩ = some vc ∧ W.cell? ⟨R, 2, none⟩ = some vb ∧ ∀ j, W.frozen? ⟨R, j, none⟩ = false
/-- A script's state, in memory of its own that avoids some blocks. -/
def St (w0 : World) (R : Nat) (s : LSt) (av : Nat → Prop) (W : World) : Prop :=
  w0.heap.size ≤ R ∧ R < W.heap.size ∧ Below w0.heap.size w0 W ∧ ¬ av R ∧ ∃ vr vc vb, OffAt R vr vc vb W ∧
    (OwnE 3 enc3 43 w0.heap.size W vr s.roads ∧ NoBad (fun j => j = R ∨ av j) vr) ∧
    NetOwn (fun j => j = R ∨ av j) w0.heap.size W vc s.net ∧
    (OwnE 3 encB 34 w0.heap.size W vb s.list ∧ NoBad (fun j => j = R ∨ av j) vb)

theorem noBad_ne {bad : Nat → Prop} {v : Value} {g : Nat} (h : NoBad bad v) (hg : bad g) : v.ownBlock = none ∨ v.ownBlock ≠ some g := by
  cases hv : v.ownBlock with
  | none => exact .inl rfl
  | some j => exact .inr fun e => by injection e with e; subst e; exact h j hv hg
theorem noBad_mono {bad bad' : Nat → Prop} {v : Value} (h : NoBad bad v) (hb : ∀ j, v.ownBlock = some j → bad' j → bad j) : NoBad bad' v := fun j hj hb' => h j hj (hb j hj hb')
theorem ne_none {v : Value} : v.ownBlock = none ∨ v.ownBlock ≠ none := by
  cases v.ownBlock with
  | none => exact .inl rfl
  | some j => exact .inr (by simp)
theorem NetOwn.kept {bad : Nat → Prop} {base : Nat} {W W' : World} {row : Option Nat} {v : Value} {net : List (List T3)} (h : NetOwn bad base W v net) (hg : W.grownBy W' row) (hr : ∀ g, row = some g → bad g) : NetOwn bad base W' v net := by
  have ap : ∀ u, NoBad bad u → u.ownBlock = none ∨ u.ownBlock ≠ row := fun u hu => by
    cases row with
    | none => exact ne_none
    | some g => exact noBad_ne hu (hr g rfl)
  obtain ⟨vs, h1, h2, h3, h4⟩ := h
  exact ⟨vs, h1.apart hg (ap _ h2), h2, h3, fun j u xs hu hx => ⟨(h4 j u xs hu hx).1.apart hg (ap _ (h4 j u xs hu hx).2), (h4 j u xs hu hx).2⟩⟩
theorem grown_frozen {w w' : World} {row : Option Nat} {g j : Nat} (h : w.grownBy w' row) (hg : g < w.heap.size) (hne : row ≠ some g) : w'.frozen? ⟨g, j, none⟩ = w.frozen? ⟨g, j, none⟩ := by
  exact World.frozen?_of_block (w := w) (h.block g hg (fun e => hne e.symm))
theorem OffAt.kept {R : Nat} {vr vc vb : Value} {W W' : World} {row : Option Nat} (h : OffAt R vr vc vb W) (hR : R < W.heap.size) (hg : W.grownBy W' row) (hr : row ≠ some R) : OffAt R vr vc vb W' :=
  ⟨by rw [grown_cell hg hR hr]; exact h.1, by rw [grown_cell hg hR hr]; exact h.2.1, by rw [grown_cell hg hR hr]; exact h.2.2.1, fun j => by rw [grown_frozen hg hR hr]; exact h.2.2.2 j⟩
theorem St.kept {w0 W W' : World} {R : Nat} {s : LSt} {av : Nat → Prop} {row : Option Nat} (h : St w0 R s av W) (hg : W.grownBy W' row) (hr : ∀ g, row = some g → av g ∧ w0.heap.size ≤ g) : St w0 R s av W' := by
  obtain ⟨h1, h2, h3, h4, vr, vc, vb, ho, ⟨hv1, hv2⟩, hn, hb1, hb2⟩ := h
  have ap : ∀ u, NoBad (fun j => j = R ∨ av j) u → u.ownBlock = none ∨ u.ownBlock ≠ row := fun u hu => by
    cases row with
    | none => exact ne_none
    | some g => exact noBad_ne hu (.inr (hr g rfl).1)
  exact ⟨h1, Nat.lt_of_lt_of_le h2 hg.size, h3.grown hg h3.size (fun k hk => (hr k hk).2), h4, vr, vc, vb, ho.kept h2 hg (fun e => h4 (hr R e).1),
    ⟨hv1.apart hg (ap _ hv2), hv2⟩, hn.kept hg (fun g hgr => .inr (hr g hgr).1), hb1.apart hg (ap _ hb2), hb2⟩
theorem St.below {w0 W W' : World} {R : Nat} {s : LSt} {av : Nat → Prop} (h : St w0 R s av W) (hb : Below W.heap.size W W') : St w0 R s av W' :=
  h.kept (row := none) ⟨hb.os, hb.tape, hb.output, hb.size, fun j hj _ => hb.block j hj⟩ (fun g hg => by simp at hg)
theorem St.fewer {w0 W : World} {R : Nat} {s : LSt} {av av' : Nat → Prop} (h : St w0 R s av W) (ha : ∀ j, j < W.heap.size → av' j → av j) : St w0 R s av' W := by
  obtain ⟨h1, h2, h3, h4, vr, vc, vb, ho, ⟨hv1, hv2⟩, ⟨vs, n1, n2, n3, n4⟩, hb1, hb2⟩ := h
  exact ⟨h1, h2, h3, fun e => h4 (ha _ h2 e), vr, vc, vb, ho, ⟨hv1, noBad_mono hv2 (fun j hj hb => hb.imp id (ha j (hv1.lt j hj).2))⟩,
    ⟨vs, n1, noBad_mono n2 (fun j hj hb => hb.imp id (ha j (n1.lt j hj).2)), n3, fun j u xs hu hx => ⟨(n4 j u xs hu hx).1, noBad_mono (n4 j u xs hu hx).2 (fun i hi hb => hb.imp id (ha i ((n4 j u xs hu hx).1.lt i hi).2))⟩⟩,
    hb1, noBad_mono hb2 (fun j hj hb => hb.imp id (ha j (hb1.lt j hj).2))⟩
theorem grown_setCell (W : World) (a : Addr) (v : Value) : W.grownBy (W.setCell a v) (some a.block) :=
  ⟨rfl, rfl, rfl, by rw [show (W.setCell a v).heap.size = W.heap.size by simp [World.setCell]]; exact Nat.le_refl _, fun k _ hk => Below.heap_setCell _ _ _ k (fun e => hk (by rw [e]))⟩
/-- The bookings are put. -/
theorem St.putB {w0 W : World} {R : Nat} {s : LSt} {av : Nat → Prop} {v : Value} {xs : List B3} (h : St w0 R s av W) (hv : OwnE 3 encB 34 w0.heap.size W v xs) (hb : NoBad (fun j => j = R ∨ av j) v) :
    St w0 R { s with list := xs } av (W.setCell ⟨R, 2, none⟩ v) := by
  obtain ⟨h1, h2, h3, h4, vr, vc, vb, ⟨o1, o2, o3, o4⟩, ⟨hv1, hv2⟩, hn, hb1, hb2⟩ := h
  have hg := grown_setCell W ⟨R, 2, none⟩ v
  exact ⟨h1, Nat.lt_of_lt_of_le h2 hg.size, h3.grown hg h3.size (fun k hk => by injection hk with hk; subst hk; exact h1), h4, vr, vc, v,
    ⟨by rw [World.cell?_setCell_other _ _ _ _ (by simp)]; exact o1, by rw [World.cell?_setCell_other _ _ _ _ (by simp)]; exact o2, World.cell?_setCell_same _ _ _ o3, fun j => by rw [World.frozen?_setCell]; exact o4 j⟩,
    ⟨hv1.apart hg (noBad_ne hv2 (.inl rfl)), hv2⟩, hn.kept hg (fun g hgr => by injection hgr with hgr; exact .inl hgr.symm), hv.apart hg (noBad_ne hb (.inl rfl)), hb⟩
/-- What is needed of the library's variables. -/
def Env (w : World) : Prop := 0 < w.heap.size ∧ ∃ m, w.cell? ⟨0, 0, none⟩ = some (.int .i64 m)
theorem Env.below {w W : World} {B : Nat} (h : Env w) (hb : Below B w W) (hB : 0 < B) : ∃ m, W.cell? ⟨0, 0, none⟩ = some (.int .i64 m) := by
  obtain ⟨h1, m, h2⟩ := h
  refine ⟨m, ?_⟩
  rw [hb.cell (by simpa using hB)]
  exact h2
end Go.Proofs.YtgjllminidlolaaGreatDoor
