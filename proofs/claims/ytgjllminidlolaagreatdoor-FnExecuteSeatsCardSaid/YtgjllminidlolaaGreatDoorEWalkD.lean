/- Contracts: the commands of a script on seats. -/
import Derived.Test.YtgjllminidlolaaGreatDoorEWalkC
import Derived.Test.YtgjllminidlolaaGreatDoorSWalkK
import Derived.Test.YtgjllminidlolaaGreatDoorSWalkH
import Derived.BigQuiet
import Derived.Deep.RegionHeld3
set_option linter.unusedVariables false
namespace Go.Proofs.YtgjllminidlolaaGreatDoor
open Go.RowKit

/-- A command has run. -/
def Ran (w0 : World) (R : Nat) (s' : LSt) (out : List ByteArray) (ok : Bool) (av : Nat → Prop) (W : World) (e : Ending) (W' : World) : Prop :=
  ∃ v, e = .returned (.tuple #[v, .bool ok]) ∧ OwnE 1 encS 9 W.heap.size W' v out ∧ W.grownBy W' (some R) ∧ St w0 R s' av W'
theorem grown_of_below {W W' : World} (h : Below W.heap.size W W') (row : Option Nat) : W.grownBy W' row := ⟨h.os, h.tape, h.output, h.size, fun j hj _ => h.block j hj⟩
/-- What a field of the office holds. -/
theorem St.listAt {w0 W : World} {R : Nat} {s : LSt} {av : Nat → Prop} (h : St w0 R s av W) :
    ∃ A c, W.cell? ⟨R, 2, none⟩ = some (.slice A s.list.length c) ∧ W.frozen? ⟨R, 2, none⟩ = false ∧ SlE 3 encB W A s.list.length s.list ∧ s.list.length ≤ c ∧ R < W.heap.size := by
  obtain ⟨h1, h2, h3, h4, vr, vc, vb, ⟨o1, o2, o3, o4⟩, hv, hn, hb1, hb2⟩ := h
  obtain ⟨A, c, rfl, hs, hc⟩ := hb1.slc encB_len rfl
  exact ⟨A, c, o3, o4 2, hs, hc, h2⟩
theorem noBad_new {base : Nat} {v : Value} {R : Nat} {av : Nat → Prop} (h : ∀ j, v.ownBlock = some j → base ≤ j) (hR : R < base) (ha : ∀ j, base ≤ j → ¬ av j) : NoBad (fun j => j = R ∨ av j) v := fun j hj hb => by
  have := h j hj
  rcases hb with rfl | hb
  · omega
  · exact ha j this hb

theorem cell_below {W W' : World} (hb : Below W.heap.size W W') {p : Addr} {v : Value} (h : W.cell? p = some v) : W'.cell? p = some v := by
  have hp : p.block < W.heap.size := by
    unfold World.cell? at h
    rcases Nat.lt_or_ge p.block W.heap.size with h1 | h1
    · exact h1
    · rw [Array.getElem?_eq_none h1] at h
      simp at h
  rw [hb.cell hp]
  exact h
theorem cells4_below {W W' : World} (hb : Below W.heap.size W W') {p q r s : Addr} {a b c d : Value} (h : W.cell? p = some a ∧ W.cell? q = some b ∧ W.cell? r = some c ∧ W.cell? s = some d) :
    W'.cell? p = some a ∧ W'.cell? q = some b ∧ W'.cell? r = some c ∧ W'.cell? s = some d := ⟨cell_below hb h.1, cell_below hb h.2.1, cell_below hb h.2.2.1, cell_below hb h.2.2.2⟩
set_option maxRecDepth 20000 in
set_option maxHeartbeats 3200000 in
theorem book_any (w0 : World) (R : Nat) (s : LSt) (av : Nat → Prop) (A : Option Addr) (c : Nat) (x y : Int) (z : Bool) (s' : LSt) (b : Bool) (W : World) (hs : St w0 R s av W) (ha : ∀ j, W.heap.size ≤ j → ¬ av j)
    (hN : SlE 1 encI W A 2 [x, y]) (hl : s.list.length ≤ 1000)
    (hb : (b = true ∧ BJoinOk 5 s.list [⟨x, y, z⟩] ∧ s' = { s with list := s.list ++ [⟨x, y, z⟩] }) ∨ (b = false ∧ ¬ BJoinOk 5 s.list [⟨x, y, z⟩] ∧ s' = s)) :
    Calls Tryz.prog 184 #[.pointer (some ⟨R, 0, none⟩), .slice A 2 c, .bool z] W (Ran w0 R s' [bs okL] b av W) := by
  obtain ⟨ys, hy⟩ : ∃ ys, (b = true ∧ BJoinOk 5 s.list [⟨x, y, z⟩] ∧ ys = s.list ++ [⟨x, y, z⟩]) ∨ (b = false ∧ ¬ BJoinOk 5 s.list [⟨x, y, z⟩] ∧ ys = []) := by
    rcases hb with ⟨h1, h2, h3⟩ | ⟨h1, h2, h3⟩
    · exact ⟨_, .inl ⟨h1, h2, rfl⟩⟩
    · exact ⟨_, .inr ⟨h1, h2, rfl⟩⟩
  have HY := Lib.hid hy
  clear hy
  obtain ⟨Ab, cb, hc, hf, hsl, hcap, hR⟩ := hs.listAt
  obtain ⟨bb, off, p, rfl, hbl, hp, -, g0⟩ := at1 hN (Below.refl _ _) (show 0 < 2 by omega)
  obtain ⟨bb', off', p', hA, hbl', hp', -, g1⟩ := at1 hN (Below.refl _ _) (show 1 < 2 by omega)
  simp only [Option.some.injEq, Addr.mk.injEq, and_true] at hA
  obtain ⟨rfl, rfl⟩ := hA
  simp only [List.getElem?_cons_zero, List.getElem?_cons_succ, Option.some.injEq] at hp hp'
  subst hp hp'
  rw [Nat.add_zero] at g0
  have HS := Lib.hid hs
  have HA := Lib.hid ha
  have HSL := Lib.hid hsl
  have HB := Lib.hid hb
  have HB0 := Lib.hid (below_drew (below_alloc (Below.refl W.heap.size W) (.cells #[.int .i64 x, .int .i64 y, .bool z] 34)))
  clear hN hs ha hsl hb hbl' hcap
  generalize hlen : s.list.length = len at *
  have HLN := Lib.hid hlen
  clear hlen
  go_enter Tryz.func184, Tryz.ntmps184
  go_wp2_with fail
  go_region
  go_wp2_with fail
  have hR0 : (W.alloc (.cells #[.int .i64 x, .int .i64 y, .bool z] 34)).drew.cell? ⟨R, 2, none⟩ = some (.slice Ab len cb) := by rw [HB0.out.cell (by exact hR)]; exact hc
  have hR1 : (W.alloc (.cells #[.int .i64 x, .int .i64 y, .bool z] 34)).drew.cell? ⟨W.heap.size, 0, none⟩ = some (.int .i64 x) := by simp
  have hR2 : (W.alloc (.cells #[.int .i64 x, .int .i64 y, .bool z] 34)).drew.cell? ⟨W.heap.size, 1, none⟩ = some (.int .i64 y) := by simp
  have hR3 : (W.alloc (.cells #[.int .i64 x, .int .i64 y, .bool z] 34)).drew.cell? ⟨W.heap.size, 2, none⟩ = some (.bool z) := by simp
  have hsz : W.heap.size ≤ (W.alloc (.cells #[.int .i64 x, .int .i64 y, .bool z] 34)).drew.heap.size := HB0.out.size
  generalize (W.alloc (.cells #[.int .i64 x, .int .i64 y, .bool z] 34)).drew = WA at *
  have HCS := Lib.hid (show WA.cell? ⟨R, 2, none⟩ = some (.slice Ab len cb) ∧ WA.cell? ⟨W.heap.size, 0, none⟩ = some (.int .i64 x) ∧ WA.cell? ⟨W.heap.size, 1, none⟩ = some (.int .i64 y) ∧ WA.cell? ⟨W.heap.size, 2, none⟩ = some (.bool z) from ⟨hR0, hR1, hR2, hR3⟩)
  clear hc hf g0 g1
  go_region_held3 (fun w' => w'.cell? ⟨R, 2, none⟩ = some (.slice Ab len cb) ∧ w'.cell? ⟨W.heap.size, 0, none⟩ = some (.int .i64 x) ∧ w'.cell? ⟨W.heap.size, 1, none⟩ = some (.int .i64 y) ∧ w'.cell? ⟨W.heap.size, 2, none⟩ = some (.bool z))
    (first | exact HCS.out | exact CZ2.out | fail)
    (first
      | (go_at_call 212; (with_reducible_and_instances refine (implSeatsBook_any Ab 5 len cb s.list x y z ys b _ ((HSL.out.below HB0.out).drew) (by omega) HY.out).mono ?_); rintro e w2 ⟨v, rfl, hown, hb2⟩; have HO2 := Lib.hid hown; have HB2 := Lib.hid ((below_drew HB0.out).trans (hb2.mono hsz)); have CZ2 := Lib.hid (cells4_below hb2 (show WA.drew.cell? ⟨R, 2, none⟩ = some (.slice Ab len cb) ∧ WA.drew.cell? ⟨W.heap.size, 0, none⟩ = some (.int .i64 x) ∧ WA.drew.cell? ⟨W.heap.size, 1, none⟩ = some (.int .i64 y) ∧ WA.drew.cell? ⟨W.heap.size, 2, none⟩ = some (.bool z) from HCS.out)); have SS2 := Lib.hid ((HS.out.below (below_drew HB0.out)).below hb2); clear hown hb2)
      )
  clear hR0 hR1 hR2 hR3 HCS
  obtain ⟨A9, c9, hc9, hf9, -, -, hR9⟩ := SS2.out.listAt
  have hszd := HB2.out.size
  rcases HB.out with ⟨rfl, hj, rfl⟩ | ⟨rfl, hj, rfl⟩
  · obtain rfl : ys = s.list ++ [⟨x, y, z⟩] := by
      rcases HY.out with ⟨_, _, h⟩ | ⟨h, _⟩
      · exact h
      · cases h
    obtain ⟨m, hm⟩ : ∃ m, (s.list ++ ([⟨x, y, z⟩] : List B3)).length = m := ⟨_, rfl⟩
    obtain ⟨Ay, cy, rfl, -, -⟩ := HO2.out.slc encB_len hm
    have HJ := Lib.hid hj
    clear hj hm
    go_wp2_with fail
    refine (done_any true _).mono ?_
    rintro e w3 ⟨v3, rfl, hown3, hb3⟩
    have hw2 : (w2.setCell ⟨R, 2, none⟩ (.slice Ay m cy)).heap.size = w2.heap.size := by simp [World.setCell]
    have HE := Lib.hid (show OwnE 1 encS 9 W.heap.size w3 v3 [bs okL] ∧ W.grownBy w3 (some R) ∧ St w0 R { s with list := s.list ++ [⟨x, y, z⟩] } av w3 from
      ⟨hown3.base_le (by rw [hw2]; exact hszd), grown_trans (grown_trans (grown_of_below HB2.out _) (grown_setCell w2 ⟨R, 2, none⟩ _)) (grown_of_below hb3 _),
       (SS2.out.putB (HO2.out.base_le (Nat.le_trans HS.out.1 (Nat.le_trans (Nat.le_of_lt hR) hsz))) (noBad_new (fun j hj => (HO2.out.lt j hj).1) (Nat.lt_of_lt_of_le hR hsz) (fun j hj => HA.out j (Nat.le_trans hsz hj)))).below hb3⟩)
    clear hown3 hb3
    go_wp2_with fail
    go_ret2
    exact ⟨v3, rfl, HE.out⟩
  · have HJ := Lib.hid hj
    clear hj
    go_wp2_with fail
    refine (done_any false _).mono ?_
    rintro e w3 ⟨v3, rfl, hown3, hb3⟩
    have HE := Lib.hid (show OwnE 1 encS 9 W.heap.size w3 v3 [bs okL] ∧ W.grownBy w3 (some R) ∧ St w0 R s' av w3 from
      ⟨hown3.base_le hszd, grown_trans (grown_of_below HB2.out _) (grown_of_below hb3 _), SS2.out.below hb3⟩)
    clear hown3 hb3
    go_wp2_with fail
    go_ret2
    exact ⟨v3, rfl, HE.out⟩
set_option maxRecDepth 20000 in
set_option maxHeartbeats 800000 in
theorem inside_any (w0 : World) (R : Nat) (s : LSt) (av : Nat → Prop) (A : Option Addr) (c : Nat) (x y : Int) (s' : LSt) (b : Bool) (W : World) (hs : St w0 R s av W) (ha : ∀ j, W.heap.size ≤ j → ¬ av j)
    (hN : SlE 1 encI W A 2 [x, y]) (hl : s.list.length ≤ 1000)
    (hb : (b = true ∧ BJoinOk 5 s.list [⟨x, y, true⟩] ∧ s' = { s with list := s.list ++ [⟨x, y, true⟩] }) ∨ (b = false ∧ ¬ BJoinOk 5 s.list [⟨x, y, true⟩] ∧ s' = s)) :
    Calls Tryz.prog 144 #[.pointer (some ⟨R, 0, none⟩), .slice A 2 c] W (Ran w0 R s' [bs okL] b av W) := by
  have HB := Lib.hid (book_any w0 R s av A c x y true s' b W hs ha hN hl hb)
  clear hs ha hN hb
  go_enter Tryz.func144, Tryz.ntmps144
  go_wp2_with fail
  refine HB.out.mono ?_
  rintro e w2 ⟨v, rfl, hr⟩
  have HR := Lib.hid hr
  clear hr
  go_wp2_with fail
  go_ret2
  exact ⟨v, rfl, HR.out⟩
set_option maxRecDepth 20000 in
set_option maxHeartbeats 800000 in
theorem outside_any (w0 : World) (R : Nat) (s : LSt) (av : Nat → Prop) (A : Option Addr) (c : Nat) (x y : Int) (s' : LSt) (b : Bool) (W : World) (hs : St w0 R s av W) (ha : ∀ j, W.heap.size ≤ j → ¬ av j)
    (hN : SlE 1 encI W A 2 [x, y]) (hl : s.list.length ≤ 1000)
    (hb : (b = true ∧ BJoinOk 5 s.list [⟨x, y, false⟩] ∧ s' = { s with list := s.list ++ [⟨x, y, false⟩] }) ∨ (b = false ∧ ¬ BJoinOk 5 s.list [⟨x, y, false⟩] ∧ s' = s)) :
    Calls Tryz.prog 145 #[.pointer (some ⟨R, 0, none⟩), .slice A 2 c] W (Ran w0 R s' [bs okL] b av W) := by
  have HB := Lib.hid (book_any w0 R s av A c x y false s' b W hs ha hN hl hb)
  clear hs ha hN hb
  go_enter Tryz.func145, Tryz.ntmps145
  go_wp2_with fail
  refine HB.out.mono ?_
  rintro e w2 ⟨v, rfl, hr⟩
  have HR := Lib.hid hr
  clear hr
  go_wp2_with fail
  go_ret2
  exact ⟨v, rfl, HR.out⟩
theorem joinTail_le (sep : List UInt8) (m : Nat) : ∀ (r : List (List UInt8)), (∀ l ∈ r, l.length ≤ m) → (Lib.joinTail sep r).length ≤ r.length * (sep.length + m)
  | [], _ => by simp [Lib.joinTail]
  | x :: r, h => by
    have ih := joinTail_le sep m r (fun l hl => h l (List.mem_cons_of_mem _ hl))
    have hx := h x (List.mem_cons_self ..)
    have e : Lib.joinTail sep (x :: r) = (sep ++ x) ++ Lib.joinTail sep r := by simp [Lib.joinTail]
    rw [e, List.length_append, List.length_append, List.length_cons, Nat.add_mul]
    omega
theorem join_le (sep : List UInt8) (m : Nat) (r : List (List UInt8)) (h : ∀ l ∈ r, l.length ≤ m) : (Lib.join r sep).length ≤ r.length * (sep.length + m) := by
  cases r with
  | nil => simp [Lib.join]
  | cons x r =>
    have h1 := joinTail_le sep m r (fun l hl => h l (List.mem_cons_of_mem _ hl))
    have hx := h x (List.mem_cons_self ..)
    rw [Lib.join_cons, List.length_append, List.length_cons, Nat.add_mul]
    omega
theorem spaced_le {ns : List Int} (h : ∀ x ∈ ns, 0 ≤ x ∧ x < 100) : (spacedL ns).length ≤ ns.length * 3 := by
  have := join_le [32] 2 (ns.map fun n => Lib.decDigits n.toNat) (fun l hl => by
    obtain ⟨x, hx, rfl⟩ := List.mem_map.1 hl
    exact decDigits_len 2 _ (by omega) (by have := h x hx; omega))
  rw [List.length_map] at this
  exact this
set_option maxRecDepth 20000 in
set_option maxHeartbeats 1600000 in
theorem seats_any (w0 : World) (R : Nat) (s : LSt) (av : Nat → Prop) (A : Option Addr) (n c : Nat) (ns : List Int) (b : Bool) (W : World) (hs : St w0 R s av W) (hl : s.list.length ≤ 1000)
    (hb : (b = true ∧ BookOk 5 s.list ∧ ns = plan s.list 5) ∨ (b = false ∧ ¬ BookOk 5 s.list ∧ ns = [])) :
    Calls Tryz.prog 146 #[.pointer (some ⟨R, 0, none⟩), .slice A n c] W (Ran w0 R s [bs (spacedL ns)] b av W) := by
  obtain ⟨Ab, cb, hc, hf, hsl, hcap, hR⟩ := hs.listAt
  have hns : ns.length ≤ 16 ∧ ∀ x ∈ ns, 0 ≤ x ∧ x < 100 := by
    rcases hb with ⟨_, hok, rfl⟩ | ⟨_, _, rfl⟩
    · refine ⟨?_, fun x hx => ?_⟩
      · rw [plan_len hok]
        exact hok.2.2.1
      · refine ⟨plan_nonneg (n := 5) hok x hx, ?_⟩
        obtain ⟨k, hk⟩ := List.getElem?_of_mem hx
        have hkl : k < s.list.length := by
          have := (List.getElem?_eq_some_iff.1 hk).1
          rw [plan_len hok] at this
          exact this
        have h1 := (plan_all (n := 5) hok).2 k _ x (List.getElem?_eq_getElem hkl) hk
        have h2 := (taken_bd s.list (s.list[k]).a (s.list[k]).c).2
        have h3 := hok.2.2.1
        omega
    · exact ⟨by simp, fun x hx => by cases hx⟩
  have HC : Hid (Calls Tryz.prog 16 #[.int .i64 5, .slice Ab s.list.length cb] W (RetOwnB 1 encI 3 ns b W)) := by
    rcases hb with ⟨rfl, hok, rfl⟩ | ⟨rfl, hno, rfl⟩
    · exact implSeatingMake_yes Ab 5 _ cb s.list W hsl hok
    · exact implSeatingMake_no Ab 5 _ cb s.list W hsl (by omega) hno
  have HS := Lib.hid hs
  have HNS := Lib.hid hns
  clear hs hb hsl hcap hns
  generalize s.list.length = len at *
  go_enter Tryz.func146, Tryz.ntmps146
  go_wp2_with fail
  refine HC.out.mono ?_
  rintro e w2 ⟨v, rfl, hown, hb2⟩
  obtain ⟨m, hm⟩ : ∃ m, ns.length = m := ⟨_, rfl⟩
  obtain ⟨A2, c2, rfl, hsl2, -⟩ := hown.slc encI_len hm
  have HB2 := Lib.hid hb2
  have HSL2 := Lib.hid hsl2
  have HM := Lib.hid hm
  clear hown hb2 hsl2 hm
  go_wp2_with fail
  refine (numbersText_any A2 m c2 ns w2 HSL2.out (by have := HNS.out.1; rw [HM.out] at this; omega) (fun x hx => itoa_small (HNS.out.2 x hx).1 (HNS.out.2 x hx).2 _) (by have h1 := spaced_le HNS.out.2; have h2 := HNS.out.1; omega)).mono ?_
  rintro e w3 ⟨rfl, hb3⟩
  have HB3 := Lib.hid (below_trans HB2.out hb3)
  have hsz3 := HB3.out.size
  clear hb3
  go_wp2_with fail
  go_ret2
  exact ⟨_, rfl, own_new w3 _ _ hsz3 encS_len [bs (spacedL ns)] _ rfl (by unfold maxLen; simp) rfl, (grown_of_below (below_alloc HB3.out _) _), HS.out.below (below_alloc HB3.out _)⟩
end Go.Proofs.YtgjllminidlolaaGreatDoor
