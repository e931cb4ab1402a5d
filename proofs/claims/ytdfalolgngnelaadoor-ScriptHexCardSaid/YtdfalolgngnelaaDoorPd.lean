/-
  Texts packed together by program: SmB, Map, SmC, SmD, SmE, SmF, Fslices, SmG, Fbytes, SmH, Flaw30, Wk30, Law30a, Lift, ScL, Law30b, ScN. Conditions: as each theorem states.
-/
import Derived.Carry
import Derived.Handed
import Derived.LaidMore
import Derived.LaidSub
import Derived.Lib.LaidTab
import Derived.MakeChecks
import Derived.MapKept
import Derived.OpenShut
import Derived.ProofKit
import Derived.Shelf.Vars
import Derived.SizedLaws
import Derived.Stop.Joined
import Derived.Stop.LaidErr
import Derived.Test.YtdfalolgngnelaaDoorRows
import Derived.Test.YtdfalolgngnelaaDoorPc
set_option linter.unusedSimpArgs false
set_option linter.unusedVariables false
/- SmB -/
namespace Go.Proofs.YtdfalolgngnelaaDoor
open Go Go.Vc Go.Scr Go.Sort
set_option linter.unusedSectionVars false
theorem ior16 : ∀ x, x < 16 → ∀ y, y < 16 → (x * 2 ^ 4 ||| y) = 16 * x + y := by decide
theorem iand15 : ∀ c, c < 256 → c &&& 15 = c % 16 := by decide +kernel
theorem idx16 : ∀ c : Nat, c < 256 → Lib.indexByte (ByteArray.mk #[48, 49, 50, 51, 52, 53, 54, 55, 56, 57, 97, 98, 99, 100, 101, 102]).data.toList ((c : Nat) : Int).toNat.toUInt8 = dgI c := by decide +kernel
theorem index_app {l r : List Nat} (hb : Bt l) (h : 10 ∉ l) : Lib.index ((l ++ 10 :: r).map UInt8.ofNat) [10] = (l.length : Int) := by
  induction l with
  | nil => rfl
  | cons x l ih =>
    have ih := ih (fun y hy => hb y (List.mem_cons_of_mem _ hy)) (fun hm => h (List.mem_cons_of_mem _ hm))
    have hx : UInt8.ofNat x ≠ 10 := fun e => by
      have := u8_inj (hb x List.mem_cons_self) (by decide : 10 < 256) e
      exact h (by rw [this]; exact List.mem_cons_self)
    rw [List.cons_append, List.map_cons, Lib.index, if_neg (by simp [List.isPrefixOf, hx.symm]), ih, if_neg (by first | (simp; omega; done) | simp), List.length_cons]
    first | omega | rfl
theorem index_no {l : List Nat} (hb : Bt l) (h : 10 ∉ l) : Lib.index (l.map UInt8.ofNat) [10] = -1 := by
  induction l with
  | nil => rfl
  | cons x l ih =>
    have ih := ih (fun y hy => hb y (List.mem_cons_of_mem _ hy)) (fun hm => h (List.mem_cons_of_mem _ hm))
    have hx : UInt8.ofNat x ≠ 10 := fun e => by
      have := u8_inj (hb x List.mem_cons_self) (by decide : 10 < 256) e
      exact h (by rw [this]; exact List.mem_cons_self)
    rw [List.map_cons, Lib.index, if_neg (by simp [List.isPrefixOf, hx.symm]), ih]
    rfl
theorem line_split {t : List Nat} (h : 10 ∈ t) : t = line t ++ 10 :: lrest t := by
  induction t with
  | nil => cases h
  | cons x t ih =>
    unfold line lrest
    by_cases e : x = 10
    · subst e; simp
    · have hm : 10 ∈ t := by
        rcases List.mem_cons.1 h with q | q
        · exact absurd q.symm e
        · exact q
      have ih := ih hm
      unfold line lrest at ih
      rw [List.takeWhile_cons_of_pos (by simpa using e), List.dropWhile_cons_of_pos (by simpa using e), List.cons_append, ← ih]
theorem cut_eq {t : List Nat} (hb : Bt t) : (Lib.cut (strOf t).data.toList (strOf [10]).data.toList).1 = (line t).map UInt8.ofNat ∧ (Lib.cut (strOf t).data.toList (strOf [10]).data.toList).2.1 = (lrest t).map UInt8.ofNat := by
  rw [strOf_data, strOf_data, show List.map UInt8.ofNat [10] = [10] from rfl]
  unfold Lib.cut
  by_cases h : 10 ∈ t
  · have e := line_split h
    have hi := index_app (l := line t) (r := lrest t) (fun x hx => hb x (by rw [e]; exact List.mem_append_left _ hx)) (line_no t)
    rw [← e] at hi
    rw [hi, if_pos (by omega)]
    have em : t.map UInt8.ofNat = (line t).map UInt8.ofNat ++ 10 :: (lrest t).map UInt8.ofNat := by
      have := congrArg (List.map UInt8.ofNat) e
      rw [List.map_append, List.map_cons] at this
      exact this
    constructor
    · show (t.map UInt8.ofNat).take _ = _
      rw [em, Int.toNat_natCast, List.take_left' (by simp)]
    · show (t.map UInt8.ofNat).drop _ = _
      rw [em, Int.toNat_natCast, ← List.drop_drop, List.drop_left' (by simp)]; rfl
  · rw [index_no hb h, if_neg (by decide)]
    have := line_all h
    rw [this.1, this.2]
    exact ⟨rfl, rfl⟩
section
variable {E w : World} {F : List HP}
set_option maxRecDepth 20000
theorem cut_c {t : List Nat} {K : ByteArray → ByteArray → Bool → World → Prop} (h : Hp E w F) (hg : Tells F Gl) (hb : Bt t) (hl : t.length ≤ 1000000) (hK : ∀ b w', Hp E w' F → K (strOf (line t)) (strOf (lrest t)) b w') :
    Cl Tryd.prog [kStr, kStr, kB] n_strings_Cut ⟨[.string (strOf t), .string (ByteArray.mk #[10])]⟩ w K := by
  obtain ⟨m, hm⟩ := (h.tells hg).1
  rw [show (ByteArray.mk #[10]) = strOf [10] from rfl]
  refine Calls.mono (Go.Proofs.Tryd.strings_Cut (strOf t) (strOf [10]) m w (by rw [strOf_size]; omega) hm) fun e w' he => ?_
  obtain ⟨rfl, n, rfl⟩ := he
  obtain ⟨e1, e2⟩ := cut_eq hb
  have f1 : (⟨(Lib.cut (strOf t).data.toList (strOf [10]).data.toList).1.toArray⟩ : ByteArray) = strOf (line t) := ba_ext (e1.trans (strOf_data _).symm)
  have f2 : (⟨(Lib.cut (strOf t).data.toList (strOf [10]).data.toList).2.1.toArray⟩ : ByteArray) = strOf (lrest t) := ba_ext (e2.trans (strOf_data _).symm)
  rw [f1, f2]
  exact hK _ _ (h.same rfl rfl rfl rfl)
theorem index_c {c : Nat} {K : Int → World → Prop} (hc : c < 256) (hK : K (dgI c) w) : Cl Tryd.prog [kI] n_strings_IndexByte ⟨[.string (ByteArray.mk #[48, 49, 50, 51, 52, 53, 54, 55, 56, 57, 97, 98, 99, 100, 101, 102]), .int .u8 (c : Int)]⟩ w K := by
  refine Calls.mono (Go.Proofs.Tryd.strings_IndexByte (ByteArray.mk #[48, 49, 50, 51, 52, 53, 54, 55, 56, 57, 97, 98, 99, 100, 101, 102]) (c : Int) w) fun e w' he => ?_
  obtain ⟨rfl, rfl⟩ := he
  rw [idx16 c hc]
  exact hK
theorem unhex_c {t : List Nat} {K : Sl → Bool → World → Prop} (h : Hp E w F) (ht : Bt t) (hl : t.length ≤ 1000000)
    (hK1 : ∀ s' b w', unhexW t = some b → Bt b → b.length ≤ t.length → Hp E w' (OwnS 1 s' (b.map vB) :: F) → K s' true w')
    (hK0 : ∀ s' b w', unhexW t = none → Bt b → b.length ≤ t.length → Hp E w' (OwnS 1 s' (b.map vB) :: F) → K s' false w') :
    Cl Tryd.prog [kS, kB] n_script_unhex ⟨[.string (strOf t)]⟩ w K := by
  refine script_unhex.ok _ _ _ ?_
  unfold script_unhex.E
  rw [show (ByteArray.mk #[45]) = strOf [45] from rfl, strOf_eq ht (by decide), strOf_size]
  unfold unhexW at hK1 hK0
  by_cases h1 : t = [45]
  · rw [if_pos h1] at hK1
    refine IfB.t (by rw [h1]; rfl) ?_
    exact hK1 _ [] _ rfl Bt.nil (Nat.zero_le _) (h.ownNil 1)
  rw [if_neg h1] at hK1 hK0
  refine IfB.f (by simpa using h1) ?_
  refine ⟨fun s i w' => ∃ (k : Nat) (o : List Nat), i = (k : Int) ∧ k ≤ t.length ∧ k % 2 = 0 ∧ o.length ≤ k ∧ Bt o ∧ pairsH t = (pairsH (t.drop k)).map (o ++ ·) ∧ Hp E w' (OwnS 1 s (o.map vB) :: F), fun _ i _ => t.length - i.toNat,
    ⟨0, [], rfl, by omega, rfl, Nat.zero_le _, Bt.nil, by simp, h.ownNil 1⟩, ?_⟩
  rintro s i w' ⟨k, o, rfl, hk, hk2, hol, ho, hp, h⟩
  have e2 : i64 ((k : Int) + 1) = ((k + 1 : Nat) : Int) := by rw [i64_id (by omega)]; omega
  have e3 : i64 ((k : Int) + 2) = ((k + 2 : Nat) : Int) := by rw [i64_id (by omega)]; omega
  rw [e2, e3]
  refine IfB.dm (fun hlt => ?_) (fun hge => ?_)
  · have hlt : k + 1 < t.length := by omega
    have ht0 : t ≠ [] := by intro e; rw [e] at hlt; simp at hlt
    rw [if_neg ht0] at hK1 hK0
    have t1 := ht t[k] (List.getElem_mem _)
    have t2 := ht t[k + 1] (List.getElem_mem _)
    refine Drw.mk h fun w' h => ?_
    rw [Int.toNat_natCast, Int.toNat_natCast, strAt_of ht (by omega), strAt_of ht hlt]
    refine ⟨by omega, by omega, by omega, by omega, index_c t1 (index_c t2 ?_)⟩
    refine IfB.dm (fun hn => ?_) (fun hn => ?_)
    · exact hK0 _ [] _ (pairsH_none hp hlt (.inl (dgI_neg.1 hn))) Bt.nil (Nat.zero_le _) (h.drop.ownNil 1)
    obtain ⟨x, hx⟩ : ∃ x, unhx t[k] = some x := by
      cases hq : unhx t[k] with
      | none => exact absurd (dgI_neg.2 hq) hn
      | some x => exact ⟨x, rfl⟩
    refine IfB.dm (fun hn => ?_) (fun hn => ?_)
    · exact hK0 _ [] _ (pairsH_none hp hlt (.inr (dgI_neg.1 hn))) Bt.nil (Nat.zero_le _) (h.drop.ownNil 1)
    obtain ⟨y, hy⟩ : ∃ y, unhx t[k + 1] = some y := by
      cases hq : unhx t[k + 1] with
      | none => exact absurd (dgI_neg.2 hq) hn
      | some y => exact ⟨y, rfl⟩
    rw [dgI_some hx, dgI_some hy]
    have hx2 := unhx_lt hx
    have hy2 := unhx_lt hy
    have hmax : IntKind.max .i64 = 9223372036854775807 := rfl
    have e4 : u8 (ior .i64 (ishl .i64 (x : Int) 4) (y : Int)) = ((16 * x + y : Nat) : Int) := by
      have s1 : ishl .i64 (x : Int) 4 = ((x * 2 ^ 4 : Nat) : Int) := ishl_nat (b := 4) (by decide) (by omega)
      have o16 := ior16 x hx2 y hy2
      rw [s1, ior_nat (by omega) (by omega) (by rw [o16]; omega), o16, u8_id (by omega)]
    rw [e4]
    refine ⟨by decide, Nw.mk h fun b17 w' h => ?_⟩
    refine run_append (ys := [vB (16 * x + y)]) (n := 1) ty_bytes (by decide) (.inl ⟨5, by kernel_rfl⟩) h.p1 (.inl ⟨_, _, _, rfl, rfl, h.tells (Tells.blk (xs := [vB (16 * x + y)]) rfl (by simp))⟩) (by simp) (by simp [vB, scalarB]) (by have := h.p1.ownLen; simp only [List.length_map] at this; omega) (by have := h.p1.ownLen; simp only [List.length_map] at this; omega) fun s2 w2 h2 hs2 => ?_
    refine ⟨⟨k + 2, o ++ [16 * x + y], rfl, by omega, by omega, by simp; omega, ho.app (Bt.cons (by omega) Bt.nil), pairsH_step hp hlt hx hy, ?_⟩, by (first | omega | (dsimp only; omega))⟩
    rw [vB_app]
    exact h2.p1.drop
  · by_cases ht0 : t = []
    · rw [if_pos ht0] at hK0
      refine IfB.df (by rw [ht0]; simp) ?_
      exact hK0 _ o _ rfl ho (by omega) h
    · rw [if_neg ht0] at hK1 hK0
      have := List.length_pos_iff.2 ht0
      refine IfB.dt (by omega) ⟨by decide, ?_⟩
      have e1 : Int.tmod (t.length : Int) 2 = ((t.length % 2 : Nat) : Int) := by rw [Int.tmod_eq_emod_of_nonneg (by omega)]; omega
      rw [e1]
      by_cases hodd : t.length % 2 = 0
      · have hkl : k = t.length := by omega
        subst hkl
        rw [List.drop_length, pairsH] at hp
        rw [hodd]
        exact hK1 _ o _ (by rw [hp]; simp) ho (by omega) h
      · rw [show t.length % 2 = 1 by omega]
        exact hK0 _ o _ (pairsH_odd (by omega)) ho (by omega) h
theorem hx2_bt {c : Nat} (h : c < 256) : Bt (hx2 c) := by
  intro x hxm
  unfold hx2 at hxm
  simp only [List.mem_cons, List.not_mem_nil, or_false] at hxm
  rcases hxm with e | e
  · have := hx_in (n := c / 16) (by omega); omega
  · have := hx_in (n := c % 16) (by omega); omega
theorem hex_c {s : Sl} {b : List Nat} {K : ByteArray → World → Prop} (h : Hp E w F) (hs : Tells F (SlT 1 s (b.map vB))) (hb : Bt b) (hl : b.length ≤ 1000000) (hK : ∀ w', Hp E w' F → K (strOf (hexW b)) w') :
    Cl Tryd.prog [kStr] n_script_Hex ⟨[.slice s.base s.len s.cap]⟩ w K := by
  refine script_Hex.ok _ _ _ ?_
  unfold script_Hex.E
  have hlen : s.len = b.length := by have := (h.tells hs).1; simpa using this.symm
  unfold hexW at hK
  by_cases h0 : b = []
  · rw [if_pos h0] at hK
    refine IfB.et (by rw [hlen, h0]; rfl) ?_
    exact hK _ h
  rw [if_neg h0] at hK
  refine IfB.ef (by have := List.length_pos_iff.2 h0; omega) ?_
  refine ⟨fun o i w' => ∃ k : Nat, i = (k : Int) ∧ k ≤ b.length ∧ Hp E w' (OwnS 1 o ((hexB (b.take k)).map vB) :: F), fun _ i _ => b.length - i.toNat, ⟨0, rfl, by omega, h.ownNil 1⟩, ?_⟩
  rintro o i w' ⟨k, rfl, hk, h⟩
  refine IfB.dm (fun hlt => ?_) (fun hge => ?_)
  · have hlt : k < b.length := by omega
    have hxc := hb b[k] (List.getElem_mem _)
    refine rdU (h.tells hs.cons) hlt ?_
    refine Drw.mk h fun w' h => ?_
    have hmax : IntKind.max .u8 = 255 := rfl
    have s1 : ishr .u8 (b[k] : Int) 4 = ((b[k] / 16 : Nat) : Int) := ishr_nat (b := 4) (by decide)
    have s2 : iand .u8 (b[k] : Int) 15 = ((b[k] % 16 : Nat) : Int) := by
      have := iand_nat (k := .u8) (a := b[k]) (b := 15) (by omega) (by omega)
      rw [iand15 _ hxc] at this
      exact this
    rw [s1, s2, digs16_lit, Int.toNat_natCast, Int.toNat_natCast, strAt_of digs16_bt (by show _ < 16; omega), strAt_of digs16_bt (by show _ < 16; omega), strOf_size]
    have g1 : digs16[b[k] / 16]'(by show _ < 16; omega) = hx (b[k] / 16) := by
      have := digs16_get (b[k] / 16) (by omega)
      rw [List.getElem?_eq_getElem (by show _ < 16; omega)] at this
      injection this
    have g2 : digs16[b[k] % 16]'(by show _ < 16; omega) = hx (b[k] % 16) := by
      have := digs16_get (b[k] % 16) (by omega)
      rw [List.getElem?_eq_getElem (by show _ < 16; omega)] at this
      injection this
    rw [g1, g2]
    refine ⟨by decide, by omega, by show _ < (16 : Int); omega, by omega, by show _ < (16 : Int); omega, Nw.mk h fun b11 w' h => ?_⟩
    have hol := h.p1.ownLen
    simp only [List.length_map, Nat.mul_one, hexB_len, List.length_take] at hol
    refine run_append (ys := (hx2 b[k]).map vB) (n := 2) ty_bytes (by decide) (.inl ⟨5, by kernel_rfl⟩) h.p1 (.inl ⟨_, _, _, rfl, rfl, h.tells (Tells.blk (xs := (hx2 b[k]).map vB) rfl (by simp [hx2]))⟩) (by simp [hx2]) vB_scalar (by omega) (by omega) fun s2 w2 h2 hs2 => ?_
    refine ⟨⟨k + 1, by rw [i64_id (by omega)]; omega, by omega, ?_⟩, by rw [i64_id (by omega)]; (first | omega | (dsimp only; omega))⟩
    rw [List.take_add_one, List.getElem?_eq_getElem hlt, Option.toList_some, hexB_snoc, List.map_append]
    exact h2.p1.drop
  · have : k = b.length := by omega
    subst this
    rw [List.take_length] at h
    exact str_c (h.tells Tells.own) (hK _ h.drop)
/-- a row of numbers -/
theorem row_c {n : List Nat} {s : Sl} {l : List Int} {K : ByteArray → World → Prop} (h : Hp E w F) (hg : Tells F Gl) (hs : Tells F (SlT 1 s (l.map vI))) (hl : l.length ≤ 100000) (hn : n.length ≤ 1000) (hz : ∀ z ∈ l, inFar z) (hK : ∀ w', Hp E w' F → K (strOf (rowL n l ++ [10])) w') :
    Cl Tryd.prog [kStr] n_script_row ⟨[.string (strOf n), .slice s.base s.len s.cap]⟩ w K := by
  refine script_row.ok _ _ _ _ ?_
  unfold script_row.E
  have hlen : s.len = l.length := by have := (h.tells hs).1; simpa using this.symm
  have B := fun k => sps_len (l := (l.take k).map decI) (B := 20) fun x hx => by
    obtain ⟨z, hm, rfl⟩ := List.mem_map.1 hx
    exact decI_len (hz z (List.mem_of_mem_take hm))
  refine ⟨fun o i w' => ∃ k : Nat, i = (k : Int) ∧ k ≤ l.length ∧ o = strOf (n ++ sps ((l.take k).map decI)) ∧ Hp E w' F, fun _ i _ => l.length - i.toNat, ⟨0, rfl, by omega, by simp [sps], h⟩, ?_⟩
  rintro o i w' ⟨k, rfl, hk, rfl, h⟩
  have hB := B k
  rw [List.length_map, List.length_take, Nat.min_eq_left hk] at hB
  refine IfB.dm (fun hlt => ?_) (fun hge => ?_)
  · have hlt : k < l.length := by omega
    refine Idx.rd (xs := l.map vI) (h.tells hs) (by omega) (by omega) fun q hq hc => Ld.sc (s := .int .i64) l[k] (by rw [hc]; simp [vI]) ?_
    have hzk := hz l[k] (List.getElem_mem _)
    have hzl := decI_len hzk
    have hfar : (far : Int) = 4611686018427387904 := rfl
    refine itoa_c h hg (by have := hzk.1; omega) (by have := hzk.2; omega) fun w h => ?_
    rw [show (ByteArray.mk #[32]) = strOf [32] from rfl]
    simp only [strOf_app, strOf_size]
    refine ⟨by simp only [List.length_append, List.length_cons, List.length_nil]; omega, by simp only [List.length_append, List.length_cons, List.length_nil]; omega, ⟨k + 1, by rw [i64_id (by omega)]; omega, by omega, ?_, h⟩, by rw [i64_id (by omega)]; (first | omega | (dsimp only; omega))⟩
    rw [List.take_add_one, List.getElem?_eq_getElem hlt, Option.toList_some, List.map_append, List.map_cons, List.map_nil, sps_snoc]
    simp
  · have hkl : k = l.length := by omega
    subst hkl
    rw [List.take_length] at hB ⊢
    rw [show (ByteArray.mk #[10]) = strOf [10] from rfl, strOf_app, strOf_size, strOf_size]
    exact ⟨by simp only [List.length_append, List.length_cons, List.length_nil]; omega, hK _ h⟩
/-- the lines, yielded -/
theorem lines_iter {t : List Nat} {b : Nat} (hb : Bt t) (hl : t.length ≤ 1000000) : Iter2 Tryd.prog E (.func (.func n_script_lines_1) ⟨[]⟩ ⟨[.pointer (some ⟨b, 0, none⟩)]⟩) (lns t).length
    (fun i => [Ki.enc kI ((i : Int) + 1), Ki.enc kStr (strOf ((lns t).getD i []))]) [Blk b (.cells ⟨[vS t]⟩ 9 (0, 0))] Gl := by
  intro yv C G w K hg hy h hK hKG
  refine ClV.mk (by kernel_rfl) (script_lines_1.ok yv ⟨b, 0, none⟩ K w ?_)
  unfold script_lines_1.E
  have hll := lns_len t
  refine ⟨fun n w => ∃ (k : Nat) (t' : List Nat), n = ((k + 1 : Nat) : Int) ∧ k ≤ (lns t).length ∧ (lns t).drop k = lns t' ∧ Bt t' ∧ t'.length ≤ 1000000 ∧ Hp E w (Blk b (.cells ⟨[vS t']⟩ 9 (0, 0)) :: C k), fun n _ => (lns t).length + 1 - n.toNat,
    ⟨0, t, rfl, by omega, rfl, hb, hl, h⟩, ?_⟩
  rintro n w ⟨k, t', rfl, hk, hd, hb', hl', h⟩
  refine Ld.xb (x := strOf t') h rfl ?_
  rw [show (ByteArray.mk #[]) = strOf [] from rfl, strOf_eq hb' Bt.nil]
  by_cases h0 : t' = []
  · refine IfB.f (by rw [h0]; rfl) ?_
    rw [h0, lns_nil] at hd
    have : (lns t).length ≤ k := by
      have := congrArg List.length hd
      rw [List.length_drop, List.length_nil] at this; omega
    have : k = (lns t).length := by omega
    subst this
    exact hK w h.drop
  · refine IfB.t (by simpa using h0) ?_
    refine Ld.xb (x := strOf t') h rfl ?_
    refine cut_c h (hg k).cons hb' hl' fun b' w h => ?_
    rw [lns_pos h0] at hd
    have hlt : k < (lns t).length := by
      rcases Nat.lt_or_ge k (lns t).length with q | q
      · exact q
      · rw [List.drop_eq_nil_of_le q] at hd; cases hd
    have hln : (lns t).getD k [] = line t' := by
      rw [List.drop_eq_getElem_cons hlt] at hd
      injection hd with h1 _
      rw [List.getD_eq_getElem?_getD, List.getElem?_eq_getElem hlt, Option.getD_some, h1]
    have hrest : (lns t).drop (k + 1) = lns (lrest t') := by
      rw [← List.drop_drop, hd]; rfl
    have he : [Value.int .i64 ((k + 1 : Nat) : Int), Value.string (strOf (line t'))] = [Ki.enc kI ((k : Int) + 1), Ki.enc kStr (strOf ((lns t).getD k []))] := by
      rw [hln]; rfl
    rw [he]
    have hy1 := hy k hlt [Blk b (.cells ⟨[vS t']⟩ 9 (0, 0))] w
    refine hy1 _ (h.perm (List.perm_append_comm (l₁ := [Blk b _]))) (fun w h => ?_) (fun w h => ?_)
    · have h : Hp E w (Blk b (.cells ⟨[vS t']⟩ 9 (0, 0)) :: C (k + 1)) := h.perm (List.perm_append_comm (l₂ := [Blk b _]))
      refine IfB.f rfl ?_
      refine St.xb h (by simp) rfl fun w h => ?_
      have hlt2 := lrest_lt h0
      refine ⟨rfl, ⟨k + 1, lrest t', by rw [i64_id (by omega)]; omega, by omega, hrest, ?_, by omega, h⟩, by rw [i64_id (by omega)]; (first | omega | (dsimp only; omega))⟩
      intro x hx
      unfold lrest at hx
      exact hb' x ((List.dropWhile_suffix _).subset (List.mem_of_mem_drop hx))
    · refine IfB.t rfl ?_
      have h : Hp E w (Blk b (.cells ⟨[vS t']⟩ 9 (0, 0)) :: G k) := h.perm (List.perm_append_comm (l₂ := [Blk b _]))
      exact hKG k w hlt h.drop
theorem many_c {t : List Nat} {K : Int → World → Prop} (h : Hp E w F) (hg : Tells F Gl) (hb : Bt t) (hl : t.length ≤ 1000000) (hK : ∀ w', Hp E w' F → K ((lns t).length : Int) w') :
    Cl Tryd.prog [kI] n_script_many ⟨[.string (strOf t)]⟩ w K := by
  refine script_many.ok _ _ _ ?_
  unfold script_many.E
  refine Nw.mk h fun b3 w h => ?_
  refine script_lines.ok _ _ _ ?_
  unfold script_lines.E
  refine Nw.mk h fun b4 w h => ?_
  refine Rng.two (x := fun i => ((i : Int) + 1)) (y := fun i => strOf ((lns t).getD i [])) (fun i => Blk b3 (.cells ⟨[.int .i64 (i : Int)]⟩ 3 (0, 0)) :: F) (fun _ => Blk b3 (.cells ⟨[.int .i64 0]⟩ 3 (0, 0)) :: Nope :: F) h (fun i => hg.cons) (lines_iter hb hl) ?_ ?_ ?_
  · intro l rec i A w Kt Kf hi h hKt hKf
    have h : Hp E w (Blk l (rec 0) :: Blk b3 (.cells ⟨[.int .i64 (i : Int)]⟩ 3 (0, 0)) :: (F ++ A)) := h
    refine St.xb h (by simp) rfl fun w h => ?_
    refine Beg.mk h fun w h => EndT.mk h fun w h => hKt w ?_
    have e : ((i : Int) + 1) = ((i + 1 : Nat) : Int) := by omega
    rw [e] at h
    exact h
  · intro D w h
    refine Ld.xb (x := ((lns t).length : Int)) h.drop rfl ?_
    refine St.xb h (by simp) rfl fun w h => ?_
    refine Dfr.mk1 h fun w h => ?_
    refine Ld.xb (x := ((lns t).length : Int)) h rfl ?_
    exact hK w h.drop
  · intro i D w hi h
    exact (Hp.nope h.drop).elim
end
end Go.Proofs.YtdfalolgngnelaaDoor
/- Map -/
namespace Go.Vc
open Go
set_option linter.unusedSectionVars false
/-- what a key type must meet -/
structure KeyOk (P : Program) {α : Type} [DecidableEq α] (kt : TypeId) (ke : α → Value) : Prop where
  und : ∃ d, P.underlying kt = some d ∧ ∀ a b, Instr.sameNow d (ke a) (ke b) = none ∨ Instr.sameNow d (ke a) (ke b) = some (decide (a = b))
  check : ∀ e a w, (Instr.checkKey e 10000 kt (ke a)).run P w = .ok () w
  eq : ∀ a b w, (Op.equal kt (ke a) (ke b)).run P w = .ok (decide (a = b)) w
  same : ∀ a, Instr.sameBits 10000 (ke a) (ke a) = true
section
variable {P : Program} {α β : Type} [DecidableEq α] {ke : α → Value} {ve : β → Value} {kt : TypeId}
/-- the entries es are the pairs of l -/
def Ents (ke : α → Value) (ve : β → Value) (es : List MapEntry) (l : List (α × β)) : Prop := es.map (fun e => (e.key, e.val)) = l.map fun p => (ke p.1, ve p.2)
/-- the place of a key -/
def findAt (a : α) : List (α × β) → Nat → Option (Nat × β)
  | [], _ => none
  | p :: l, i => if a = p.1 then some (i, p.2) else findAt a l (i + 1)
theorem ents_cons {e : MapEntry} {es : List MapEntry} {l : List (α × β)} (h : Ents ke ve (e :: es) l) : ∃ p l', l = p :: l' ∧ e.key = ke p.1 ∧ e.val = ve p.2 ∧ Ents ke ve es l' := by
  unfold Ents at h
  cases l with
  | nil => simp at h
  | cons p l' =>
    simp only [List.map_cons, List.cons.injEq, Prod.mk.injEq] at h
    exact ⟨p, l', rfl, h.1.1, h.1.2, h.2⟩
theorem asking_run (hk : KeyOk P kt ke) (a : α) (w : World) : ∀ (es : List MapEntry) (l : List (α × β)) (i : Nat), Ents ke ve es l → (Instr.findAsking kt (ke a) es i).run P w = .ok ((findAt a l i).map fun q => (q.1, ve q.2)) w
  | [], l, i, h => by
    have : l = [] := by unfold Ents at h; cases l <;> simp at h ⊢
    subst this
    simp [Instr.findAsking, findAt]
  | e :: es, l, i, h => by
    obtain ⟨p, l', rfl, h1, h2, h3⟩ := ents_cons h
    simp only [Instr.findAsking, Sem.run_bind, h1, hk.eq, Result.andThen_ok, findAt]
    by_cases hq : a = p.1
    · simp [hq, h2]
    · simp [hq, asking_run hk a w es l' (i + 1) h3]
theorem now_eq {d : TypeDesc} (hd : ∀ a b, Instr.sameNow d (ke a) (ke b) = none ∨ Instr.sameNow d (ke a) (ke b) = some (decide (a = b))) (a : α) : ∀ (es : List MapEntry) (l : List (α × β)) (i : Nat), Ents ke ve es l →
    Instr.findNow d (ke a) es i = none ∨ Instr.findNow d (ke a) es i = some ((findAt a l i).map fun q => (q.1, ve q.2))
  | [], l, i, h => by
    have : l = [] := by unfold Ents at h; cases l <;> simp at h ⊢
    subst this
    exact .inr rfl
  | e :: es, l, i, h => by
    obtain ⟨p, l', rfl, h1, h2, h3⟩ := ents_cons h
    unfold Instr.findNow
    rw [h1]
    rcases hd a p.1 with h0 | h0
    · rw [h0]; exact .inl rfl
    · rw [h0]
      by_cases hq : a = p.1
      · right; simp [findAt, hq, h2]
      · simp only [hq, decide_false, findAt, if_false]
        exact now_eq hd a es l' (i + 1) h3
theorem findKey_run (hk : KeyOk P kt ke) (a : α) (w : World) (es : List MapEntry) (l : List (α × β)) (h : Ents ke ve es l) : (Instr.findKey kt (ke a) es).run P w = .ok ((findAt a l 0).map fun q => (q.1, ve q.2)) w := by
  obtain ⟨d, hu, hd⟩ := hk.und
  simp only [Instr.findKey, Sem.run_bind, run_underlying hu, Result.andThen_ok]
  rcases now_eq (ve := ve) hd a es l 0 h with h0 | h0
  · rw [h0]; exact asking_run hk a w es l 0 h
  · rw [h0]; rfl
/-- a key is given a value -/
def updAt (a : α) (b : β) : List (α × β) → List (α × β)
  | [] => [(a, b)]
  | p :: l => if a = p.1 then (a, b) :: l else p :: updAt a b l
theorem findAt_ge {a : α} : ∀ {l : List (α × β)} {i j : Nat} {v : β}, findAt a l i = some (j, v) → i ≤ j
  | [], i, j, v, h => by simp [findAt] at h
  | p :: l, i, j, v, h => by
    unfold findAt at h
    split at h
    · simp at h; omega
    · have := findAt_ge h; omega
theorem ents_upd {a : α} {b : β} {f : MapEntry → MapEntry} (hf : ∀ e, e.key = ke a → (f e).key = ke a ∧ (f e).val = ve b) : ∀ {es : List MapEntry} {l : List (α × β)} {i j : Nat} {v : β}, Ents ke ve es l → findAt a l i = some (i + j, v) →
    Ents ke ve (es.modify j f) (updAt a b l)
  | [], l, i, j, v, h, hf2 => by
    have : l = [] := by unfold Ents at h; cases l <;> simp at h ⊢
    subst this
    simp [findAt] at hf2
  | e :: es, l, i, j, v, h, hf2 => by
    obtain ⟨p, l', rfl, h1, h2, h3⟩ := ents_cons h
    unfold findAt at hf2
    unfold updAt
    by_cases hq : a = p.1
    · rw [if_pos hq] at hf2 ⊢
      have : j = 0 := by simp at hf2; omega
      subst this
      obtain ⟨q1, q2⟩ := hf e (by rw [h1, hq])
      unfold Ents at h3 ⊢
      simp [List.modify, q1, q2, h3]
    · rw [if_neg hq] at hf2 ⊢
      have hge := findAt_ge hf2
      obtain ⟨j, rfl⟩ : ∃ j', j = j' + 1 := ⟨j - 1, by omega⟩
      have ih := ents_upd (f := f) hf (i := i + 1) (j := j) (v := v) h3 (by rw [hf2]; congr 2; omega)
      unfold Ents at ih ⊢
      simp only [List.modify_succ_cons, List.map_cons, ih, h1, h2]
theorem ents_key {a : α} : ∀ {es : List MapEntry} {l : List (α × β)} {i j : Nat} {v : β}, Ents ke ve es l → findAt a l i = some (i + j, v) → ∃ e, es[j]? = some e ∧ e.key = ke a
  | [], l, i, j, v, h, hf2 => by
    have : l = [] := by unfold Ents at h; cases l <;> simp at h ⊢
    subst this
    simp [findAt] at hf2
  | e :: es, l, i, j, v, h, hf2 => by
    obtain ⟨p, l', rfl, h1, h2, h3⟩ := ents_cons h
    unfold findAt at hf2
    by_cases hq : a = p.1
    · rw [if_pos hq] at hf2
      have : j = 0 := by simp at hf2; omega
      subst this
      exact ⟨e, rfl, by rw [h1, hq]⟩
    · rw [if_neg hq] at hf2
      have hge := findAt_ge hf2
      obtain ⟨j, rfl⟩ : ∃ j', j = j' + 1 := ⟨j - 1, by omega⟩
      obtain ⟨e', h4, h5⟩ := ents_key (i := i + 1) (j := j) (v := v) h3 (by rw [hf2]; congr 2; omega)
      exact ⟨e', by simpa using h4, h5⟩
theorem updAt_new {a : α} {b : β} : ∀ {l : List (α × β)} {i : Nat}, findAt a l i = none → updAt a b l = l ++ [(a, b)]
  | [], _, _ => rfl
  | p :: l, i, h => by
    unfold findAt at h
    unfold updAt
    by_cases hq : a = p.1
    · rw [if_pos hq] at h; cases h
    · rw [if_neg hq] at h ⊢
      rw [updAt_new h]; rfl
end
/-- a map of the code's own: its pairs, in the order in which the keys came -/
def OwnM {α β : Type} (ke : α → Value) (ve : β → Value) (m : Option Nat) (l : List (α × β)) : HP := fun f => ∃ b es clock, m = some b ∧ Ents ke ve es.toList l ∧ f = Frag.one b (.map es clock)
section
variable {P : Program} {α β : Type} [DecidableEq α] {ke : α → Value} {ve : β → Value} {kt vt t : TypeId} {E w : World} {F : List HP} {m : Option Nat} {l : List (α × β)}
theorem Hp.mapOpen (h : Hp E w (OwnM ke ve m l :: F)) : ∃ b es clock, m = some b ∧ Ents ke ve es.toList l ∧ Hp E w (Blk b (.map es clock) :: F) := by
  obtain ⟨f, a, g, k, hd, e, ⟨b, es, clock, h1, h2, h3⟩, h4⟩ := h.frag
  exact ⟨b, es, clock, h1, h2, h.os, h.output, h.tape, f, a, g, k, hd, e, h3, h4⟩
theorem Hp.mapShut {b clock : Nat} {es : Array MapEntry} (h : Hp E w (Blk b (.map es clock) :: F)) (he : Ents ke ve es.toList l) : Hp E w (OwnM ke ve (some b) l :: F) :=
  h.weak fun _ hf => ⟨b, es, clock, rfl, he, hf⟩
theorem run_makeMap {K : Option Nat → World → Prop} (h : Hp E w F) (hK : ∀ m w', Hp E w' (OwnM ke ve m [] :: F) → K m w') : Run P (Instr.makeMap t none) kM w K := by
  unfold Run
  have e : (Instr.makeMap t none).run P w = .ok (.map (some w.heap.size)) (w.alloc (.map #[] 0)) := rfl
  rw [e]
  exact hK _ _ (Hp.mapShut (h.alloc _) rfl)
theorem run_mapUpdate (hk : KeyOk P kt ke) (hu : P.underlying t = some (.map kt vt)) {a : α} {b : β} {K : Value → World → Prop} (h : Hp E w (OwnM ke ve m l :: F)) (hK : ∀ w', Hp E w' (OwnM ke ve m (updAt a b l) :: F) → K undef w') :
    Run P (do Instr.mapUpdate t (.map m) (ke a) (ve b); pure undef) kV w K := by
  obtain ⟨r, es, clock, rfl, he, hB⟩ := h.mapOpen
  have hb := hB.blk
  have hfk := findKey_run (ve := ve) hk a w es.toList l he
  have key : ∀ es' clock', (do Instr.mapUpdate t (.map (some r)) (ke a) (ve b); pure undef : Sem Value).run P w = .ok undef { w with heap := w.heap.setIfInBounds r (.map es' clock') } → Ents ke ve es'.toList (updAt a b l) →
      Run P (do Instr.mapUpdate t (.map (some r)) (ke a) (ve b); pure undef) kV w K := by
    intro es' clock' h1 h2
    unfold Run
    rw [h1]
    exact hK _ (Hp.mapShut (hB.setObj rfl rfl rfl rfl) h2)
  cases hf : findAt a l 0 with
  | none =>
    rw [hf] at hfk
    refine key (es.push ⟨ke a, ve b, clock⟩) (clock + 1) ?_ ?_
    · simp [Instr.mapUpdate, run_underlying hu, MapKept.run_getObj_map hb, hk.check, hfk, MapKept.run_setObj_map _ hb]
    · rw [updAt_new hf]
      unfold Ents at he ⊢
      simp [he]
  | some q =>
    obtain ⟨j, v⟩ := q
    rw [hf] at hfk
    have hfk' : (Instr.findKey kt (ke a) es.toList).run P w = .ok (some (j, ve v)) w := hfk
    have hkey : ((es[j]?).map (·.key)).getD (ke a) = ke a := by
      obtain ⟨e, he1, he2⟩ := ents_key (ke := ke) (ve := ve) he (i := 0) (j := j) (v := v) (by simpa using hf)
      have : es[j]? = some e := by simpa using he1
      rw [this]; exact he2
    refine key (es.modify j fun e => { e with key := ke a, val := ve b }) clock ?_ ?_
    · simp [Instr.mapUpdate, run_underlying hu, MapKept.run_getObj_map hb, hk.check, hfk', hkey, Instr.keyThatStays, hk.same, MapKept.run_setObj_map _ hb]
    · rw [Array.toList_modify]
      exact ents_upd (ke := ke) (ve := ve) (a := a) (b := b) (fun e _ => ⟨rfl, rfl⟩) he (i := 0) (j := j) (v := v) (by simpa using hf)
theorem run_lookup (hk : KeyOk P kt ke) (hu : P.underlying t = some (.map kt vt)) {a : α} {z : Value} (hz : ∀ w, (zeroValue vt).run P w = .ok z w) (h : Hp E w (OwnM ke ve m l :: F)) :
    (Instr.lookup t (.map m) (ke a) true).run P w = .ok (.tuple #[(match findAt a l 0 with | some q => ve q.2 | none => z), .bool (findAt a l 0).isSome]) w := by
  obtain ⟨r, es, clock, rfl, he, hB⟩ := h.mapOpen
  have hb := hB.blk
  have hfk := findKey_run (ve := ve) hk a w es.toList l he
  cases hf : findAt a l 0 with
  | none =>
    rw [hf] at hfk
    simp [Instr.lookup, run_underlying hu, MapKept.run_getObj_map hb, hk.check, hfk, hz]
  | some q =>
    rw [hf] at hfk
    simp [Instr.lookup, run_underlying hu, MapKept.run_getObj_map hb, hk.check, hfk]
end
end Go.Vc
/- SmC -/
namespace Go.Proofs.YtdfalolgngnelaaDoor
open Go Go.Vc Go.Scr Go.Sort
set_option linter.unusedSectionVars false
/-! maps with strings as keys -/
theorem undS : Tryd.prog.underlying 9 = some .string := by kernel_rfl
theorem ba_beq (a b : ByteArray) : (a == b) = decide (a = b) := by
  cases a; cases b
  rename_i x y
  show (x == y) = _
  rw [Bool.eq_iff_iff, beq_iff_eq, decide_eq_true_iff]
  exact ⟨fun e => by rw [e], fun e => by injection e⟩
theorem keyOk_S : KeyOk Tryd.prog (α := ByteArray) 9 (fun s => Value.string s) where
  und := ⟨_, undS, fun a b => .inr (by
    show some (a == b) = _
    rw [ba_beq])⟩
  check := fun e a w => by
    have : ∀ (e : Bool) (c : ByteArray) (w : World), (Instr.checkKey e 10000 9 (.string c)).run Tryd.prog w = .ok () w := fun e c w => by kernel_rfl
    exact this e a w
  eq := fun a b w => by
    refine (run_equalIn_string w 9999 _ _ _ undS).trans ?_
    congr 1
    rw [Bool.eq_iff_iff, beq_iff_eq, decide_eq_true_iff]
    exact ⟨fun e => ba_ext (by rw [← ByteArray.toList_eq, ← ByteArray.toList_eq, e]), fun e => by rw [e]⟩
  same := fun a => by
    show (a == a) = true
    rw [ba_beq]; simp
section
variable {α β : Type} [DecidableEq α]
/-- what a map holds -/
def Has (l : List (α × β)) (f : α → Option β) : Prop := ∀ a, (findAt a l 0).map (·.2) = f a
theorem findAt_shift (a : α) : ∀ (l : List (α × β)) (i : Nat), (findAt a l (i + 1)).map (·.2) = (findAt a l i).map (·.2)
  | [], i => rfl
  | p :: l, i => by
    unfold findAt
    split
    · rfl
    · exact findAt_shift a l (i + 1)
theorem Has.nil : Has ([] : List (α × β)) (fun _ => none) := fun _ => rfl
theorem Has.upd {l : List (α × β)} {f : α → Option β} (h : Has l f) (a : α) (b : β) : Has (updAt a b l) (fun x => if x = a then some b else f x) := by
  intro x
  have key : ∀ (l : List (α × β)) (i : Nat), (findAt x (updAt a b l) i).map (·.2) = if x = a then some b else (findAt x l i).map (·.2) := by
    intro l
    induction l with
    | nil =>
      intro i
      unfold updAt findAt
      by_cases e : x = a
      · rw [if_pos e, if_pos e]; rfl
      · rw [if_neg e, if_neg e]; rfl
    | cons p l ih =>
      intro i
      unfold updAt
      by_cases e1 : a = p.1
      · rw [if_pos e1]
        unfold findAt
        by_cases e2 : x = a
        · rw [if_pos e2, if_pos e2]; rfl
        · rw [if_neg e2, if_neg e2, if_neg (fun e => e2 (by rw [e, e1]))]
      · rw [if_neg e1]
        unfold findAt
        by_cases e3 : x = p.1
        · rw [if_pos e3, if_pos e3, if_neg (fun e => e1 (by rw [← e, e3]))]
        · rw [if_neg e3, if_neg e3, ih]
  rw [key]
  show _ = if x = a then some b else f x
  rw [← h x]
end
end Go.Proofs.YtdfalolgngnelaaDoor
/- SmD -/
namespace Go.Proofs.YtdfalolgngnelaaDoor
open Go Go.Vc Go.Scr Go.Sort
set_option linter.unusedSectionVars false
theorem strOf_inj {a b : List Nat} (ha : Bt a) (hb : Bt b) : strOf a = strOf b ↔ a = b := by
  constructor
  · intro e
    have := strOf_eq ha hb
    rw [e] at this
    simpa using this.symm
  · intro e; rw [e]
theorem RunR.lkP {P : Program} {s : Sem Value} {w : World} {K : Option Addr → Bool → World → Prop} (x : Option Addr) (b : Bool) (h : s.run P w = .ok (.tuple #[.pointer x, .bool b]) w) (hK : K x b w) : RunR P s [kP, kB] w K := by
  unfold RunR
  rw [h]
  exact hK
theorem NilCk.mk {p : Addr} {K : Addr → Prop} (h : K p) : NilCk (some p) K := h
theorem Has.congr {α β : Type} [DecidableEq α] {l : List (α × β)} {f g : α → Option β} (h : Has l f) (e : ∀ x, f x = g x) : Has l g := fun x => (h x).trans (e x)
section
variable {E w : World} {F : List HP}
set_option maxRecDepth 20000
abbrev tySn : TypeId := 27
theorem cuts_c {s : Scn} {ds : List Dd} {sd ss sb sc l : Sl} {bs : Nat} {ws : List (List Nat)} {A : HP} {K : Bool → World → Prop} (h : Hp E w (A :: Blk bs (.cells ⟨encs ksS (tS s sd ss sb sc)⟩ tySn (0, 0)) :: SnL ds s sd ss sb sc F)) (hg : Tells F Gl) (hz : sz s ≤ 10000000)
    (hs : ∀ G, Tells (A :: G) (SlT 1 l (ws.map vS))) (hw : ∀ x ∈ ws, Bt x ∧ x.length ≤ 1000000) (hl : ws.length ≤ 1000000)
    (hK1 : ∀ zs sc w', nums ws = some zs → ws ≠ [] → Hp E w' (A :: Blk bs (.cells ⟨encs ksS (tS { s with cuts := s.cuts ++ zs } sd ss sb sc)⟩ tySn (0, 0)) :: SnL ds { s with cuts := s.cuts ++ zs } sd ss sb sc F) → K true w')
    (hK0 : ∀ w', ws = [] ∨ nums ws = none → Hp E w' F → K false w') :
    Cl Tryd.prog [kB] n_script_cuts ⟨[.pointer (some ⟨bs, 0, none⟩), .slice l.base l.len l.cap]⟩ w K := by
  refine script_cuts.ok _ _ _ _ ?_
  unfold script_cuts.E
  have hlen : l.len = ws.length := by have := (h.tells (hs _)).1; simpa using this.symm
  have hz' := hz
  unfold sz at hz'
  refine ⟨fun i w => ∃ (k : Nat) (zs : List Int) (sc : Sl), i = (k : Int) ∧ k ≤ ws.length ∧ nums (ws.take k) = some zs ∧
      Hp E w (A :: Blk bs (.cells ⟨encs ksS (tS { s with cuts := s.cuts ++ zs } sd ss sb sc)⟩ tySn (0, 0)) :: SnL ds { s with cuts := s.cuts ++ zs } sd ss sb sc F), fun i _ => ws.length - i.toNat,
    ⟨0, [], sc, rfl, by omega, rfl, by simpa using h⟩, ?_⟩
  rintro i w ⟨k, zs, sc, rfl, hk, hzs, h⟩
  have hzl := nums_len hzs
  rw [List.length_take, Nat.min_eq_left hk] at hzl
  refine IfB.dm (fun hlt => ?_) (fun hge => ?_)
  · have hlt : k < ws.length := by omega
    refine rdS (h.tells (hs _)) hlt ?_
    have hx := hw ws[k] (List.getElem_mem _)
    refine Nw.mk h fun b10 w h => ?_
    refine St.xb h (by decide) rfl fun w h => ?_
    refine number_c h (Tells.app [A, Blk bs _, OwnS 2 sd _, Dx ds, OwnS 2 ss _, OwnS 1 sb _, OwnS 1 sc _] hg) hx.1 hx.2 (by simp) (fun z w hz h => ?_) (fun w hz h => ?_)
    · refine IfB.f rfl ?_
      have e : ws.take (k + 1) = ws.take k ++ [ws[k]] := by rw [List.take_add_one, List.getElem?_eq_getElem hlt, Option.toList_some]
      have hcz : (s.cuts ++ zs).length = s.cuts.length + zs.length := List.length_append
      have fin : ∀ (s' : Sl) (w : World), Hp E w (OwnS 1 s' ((s.cuts ++ zs ++ [z]).map vI) :: Blk b10 (.cells ⟨[.int .i64 z]⟩ 3 (0, 0)) :: A :: Blk bs (.cells ⟨encs ksS (tS { s with cuts := s.cuts ++ zs } sd ss sb s')⟩ tySn (0, 0)) :: OwnS 2 sd (ds.flatMap gD) :: Dx ds :: OwnS 2 ss (s.spoils.flatMap gP) :: OwnS 1 sb (s.behind.map vB) :: F) →
          (∃ (k' : Nat) (zs : List Int) (sc : Sl), i64 ((k : Int) + 1) = (k' : Int) ∧ k' ≤ ws.length ∧ nums (ws.take k') = some zs ∧
      Hp E w (A :: Blk bs (.cells ⟨encs ksS (tS { s with cuts := s.cuts ++ zs } sd ss sb sc)⟩ tySn (0, 0)) :: SnL ds { s with cuts := s.cuts ++ zs } sd ss sb sc F)) ∧ ws.length - (i64 ((k : Int) + 1)).toNat < ws.length - (k : Int).toNat := by
        intro s' w h
        rw [i64_id (by omega)]
        refine ⟨⟨k + 1, zs ++ [z], s', by omega, by omega, by rw [e]; exact nums_snoc hzs hz, ?_⟩, by omega⟩
        have h := h.no 1
        have h := (((((h.at 6).at 6).at 6).at 6).at 6).at 6
        rw [← List.append_assoc]
        exact h
      refine Drw.mk h fun w h => ?_
      refine Ld.xb (x := z) h rfl ?_
      constructor
      · refine Ld.xb (x := sc) h rfl ?_
        refine app1m (f := vI) (x := z) ty_intl (fun _ => rfl) (h.at 7) (by show (2 * ((s.cuts ++ zs).length + 1) + 1024) * 8 ≤ 2 ^ 48; omega) (by show (s.cuts ++ zs).length + 1 < 2 ^ 62; omega) fun s' w h _ => ?_
        refine NilCk.mk ?_
        rw [add_mk]
        refine St.xb (b := bs) (o := 0 + 7) h (by show 7 < 8; decide) rfl (fun w h => ?_)
        exact fin s' w h
      · refine Nw.mk h fun b25 w h => ?_
        refine Ld.xb (x := sc) h rfl ?_
        have hol := (h.at 8).ownLen
        simp only [List.length_map, Nat.mul_one] at hol
        refine run_append (ys := [vI z]) (n := 1) ty_intl (by decide) (.inl ⟨3, by kernel_rfl⟩) (h.at 8) (.inl ⟨_, _, _, rfl, rfl, h.tells (Tells.blk (xs := [vI z]) rfl (by simp))⟩) (by simp) (by simp [vI, scalarB]) (by show (2 * (sc.len + 1) + 1024) * 8 ≤ 2 ^ 48; omega) (by show sc.len + 1 < 2 ^ 62; omega) fun s' w h _ => ?_
        refine NilCk.mk ?_
        rw [add_mk]
        refine St.xb (b := bs) (o := 0 + 7) h (by show 7 < 8; decide) rfl (fun w h => ?_)
        have h := h.no 1
        rw [show (s.cuts ++ zs).map vI ++ [vI z] = (s.cuts ++ zs ++ [z]).map vI by simp] at h
        exact fin s' w h
    · refine IfB.t rfl ?_
      have hn : nums ws = none := by
        have := nums_bad (a := ws.take k) (r := ws.drop (k + 1)) hz
        rwa [← List.drop_eq_getElem_cons hlt, List.take_append_drop] at this
      exact hK0 w (.inr hn) h.drop.drop.drop.drop.drop.drop.drop.drop
  · have hkl : k = ws.length := by omega
    subst hkl
    rw [List.take_length] at hzs
    by_cases h0 : ws = []
    · rw [decide_eq_false (by rw [hlen, h0]; simp)]
      exact hK0 w (.inl h0) h.drop.drop.drop.drop.drop.drop.drop
    · have := List.length_pos_iff.2 h0
      rw [decide_eq_true (by omega)]
      exact hK1 zs sc w hzs h0 h
abbrev keS : ByteArray → Value := fun s => .string s
abbrev veA : Addr → Value := fun p => .pointer (some p)
def fin4 (p : Addr) (x : ByteArray) : Option Addr := if x = strOf sSize then some (p.add 0) else if x = strOf sBudget then some (p.add 1) else if x = strOf sRoom then some (p.add 6) else if x = strOf sDrop then some (p.add 4) else none
theorem ty_mapS : Tryd.prog.underlying 81 = some (.map 9 80) := by kernel_rfl
set_option maxHeartbeats 4000000 in
theorem says_c {s : Scn} {ds : List Dd} {sd ss sb sc : Sl} {bs : Nat} {ln : List Nat} {K : Bool → World → Prop} (h : Hp E w (Blk bs (.cells ⟨encs ksS (tS s sd ss sb sc)⟩ tySn (0, 0)) :: SnL ds s sd ss sb sc F)) (hg : Tells F Gl) (hd : ds.map (·.1) = s.deeds) (hz : sz s ≤ 9000000) (hb : Bt ln) (hl : ln.length ≤ 1000000)
    (hK1 : ∀ s' ds' sd ss sb sc w', says s ln = some s' → ds'.map (·.1) = s'.deeds → Hp E w' (Blk bs (.cells ⟨encs ksS (tS s' sd ss sb sc)⟩ tySn (0, 0)) :: SnL ds' s' sd ss sb sc F) → K true w')
    (hK0 : ∀ w', says s ln = none → Hp E w' F → K false w') :
    Cl Tryd.prog [kB] n_script_says ⟨[.pointer (some ⟨bs, 0, none⟩), .string (strOf ln)]⟩ w K := by
  refine script_says.ok _ _ _ _ ?_
  unfold script_says.E
  refine words_c h hb hl fun s4 A w h4 hcap ht4 h => ?_
  have hwl := wds_len ln
  have hwa := wds_all hb
  unfold says at hK1 hK0
  have hz' := hz
  unfold sz at hz'
  have hdl : ds.length = s.deeds.length := by rw [← hd, List.length_map]
  generalize hws : wds ln = ws at hK1 hK0 hwl hwa h4 ht4
  have hgl : ∀ B : HP, Tells (B :: Blk bs (.cells ⟨encs ksS (tS s sd ss sb sc)⟩ tySn (0, 0)) :: SnL ds s sd ss sb sc F) Gl := fun B => Tells.app [B, Blk bs _, OwnS 2 sd _, Dx ds, OwnS 2 ss _, OwnS 1 sb _, OwnS 1 sc _] hg
  cases ws with
  | nil =>
    refine IfB.et (by rw [h4]; rfl) ?_
    exact hK1 s ds _ _ _ _ w rfl hd h.drop
  | cons nm l =>
    have hnm := hwa nm List.mem_cons_self
    simp only [List.length_cons] at h4 hwl
    refine Join.of (fun r => nm.head? ≠ some 35 → r w) (fun h35 => ?_) fun r hr => ?_
    · refine Drw.mk h fun w h => ?_
      have hin : Idx s4 0 1 = Idx s4 ((0 : Nat) : Int) 1 := rfl
      rw [hin]
      refine rdS (h.tells (ht4 _)) (by simp) ?_
      rw [List.getElem_cons_zero]
      refine Slc.rdn (xs := (nm :: l).map vS) (by simp; omega) (by omega) (by omega) (by omega) (by omega) (by omega) fun s17 hs17 hl17 _ => ?_
      have ht17 : ∀ G, Tells (A :: G) (SlT 1 s17 (l.map vS)) := fun G => (ht4 G).imp fun w' hw' => by
        have := hs17 w' hw'
        have e : ((((nm :: l).map vS).drop ((1 : Int).toNat * 1)).take (((s4.len : Int).toNat - (1 : Int).toNat) * 1)) = l.map vS := by
          show (l.map vS).take _ = _
          rw [List.take_of_length_le]
          simp; omega
        rwa [e] at this
      have hl17 : s17.len = l.length := by rw [hl17]; simp; omega
      have hrd : ∀ (j : Nat) (hj : j < l.length), Bt l[j] ∧ l[j] ≠ [] ∧ l[j].length ≤ 1000000 := fun j hj => by
        have := hwa l[j] (List.mem_cons_of_mem _ (List.getElem_mem _))
        exact ⟨this.1, this.2.1, by omega⟩
      have i0 : Idx s17 0 1 = Idx s17 ((0 : Nat) : Int) 1 := rfl
      have i1 : Idx s17 1 1 = Idx s17 ((1 : Nat) : Int) 1 := rfl
      refine Join.of (fun r => ∀ (m : Option Nat) (w : World) (M : List (ByteArray × Addr)), Has M (fin4 ⟨bs, 0, none⟩) → Hp E w (OwnM keS veA m M :: A :: Blk bs (.cells ⟨encs ksS (tS s sd ss sb sc)⟩ tySn (0, 0)) :: SnL ds s sd ss sb sc F) → r m w) (fun m w M hM h => ?_) fun r hr => ?_
      · have hlk := run_lookup (P := Tryd.prog) (t := 81) keyOk_S ty_mapS (a := strOf nm) (z := .pointer none) (fun w => by kernel_rfl) h
        have hMn := hM (strOf nm)
        unfold fin4 at hMn
        simp only [strOf_inj hnm.1 (show Bt sSize by decide), strOf_inj hnm.1 (show Bt sBudget by decide), strOf_inj hnm.1 (show Bt sRoom by decide), strOf_inj hnm.1 (show Bt sDrop by decide)] at hMn
        by_cases hnu : isNum nm
        · obtain ⟨o, ho, hset⟩ : ∃ o : Nat, o < 8 ∧ (findAt (strOf nm) M 0).map (·.2) = some (⟨bs, o, none⟩ : Addr) ∧ ∀ z : Int, (⟨encs ksS (tS s sd ss sb sc)⟩ : Array Value).setIfInBounds o (.int .i64 z) = ⟨encs ksS (tS (setNum s nm z) sd ss sb sc)⟩ := by
            unfold setNum
            by_cases e1 : nm = sSize
            · exact ⟨0, by decide, by rw [hMn, if_pos e1]; rfl, fun z => by rw [if_pos e1]; rfl⟩
            by_cases e2 : nm = sBudget
            · exact ⟨1, by decide, by rw [hMn, if_neg e1, if_pos e2]; rfl, fun z => by rw [if_neg e1, if_pos e2]; rfl⟩
            by_cases e3 : nm = sRoom
            · exact ⟨6, by decide, by rw [hMn, if_neg e1, if_neg e2, if_pos e3]; rfl, fun z => by rw [if_neg e1, if_neg e2, if_pos e3]; rfl⟩
            have e4 : nm = sDrop := by
              rcases hnu with q | q | q | q
              · exact absurd q e1
              · exact absurd q e2
              · exact absurd q e3
              · exact q
            exact ⟨4, by decide, by rw [hMn, if_neg e1, if_neg e2, if_neg e3, if_pos e4]; rfl, fun z => by rw [if_neg e1, if_neg e2, if_neg e3]; rfl⟩
          rw [saysW_num hnu] at hK1 hK0
          obtain ⟨q, hq, hq2⟩ := Option.map_eq_some_iff.1 hset.1
          rw [hq] at hlk
          refine RunR.lkP (some ⟨bs, o, none⟩) true (by rw [hlk, ← hq2]; rfl) ?_
          refine IfB.t rfl ?_
          refine IfB.em (fun h1 => ?_) (fun h1 => ?_)
          · obtain ⟨x, rfl⟩ : ∃ x, l = [x] := List.length_eq_one_iff.1 (by omega)
            have hx := hrd 0 (by simp)
            rw [List.getElem_cons_zero] at hx
            rw [i0]
            refine rdS (h.drop.tells (ht17 _)) (by simp) ?_
            rw [List.getElem_cons_zero]
            refine number_c h.drop.drop (Tells.app [OwnS 2 sd _, Dx ds, OwnS 2 ss _, OwnS 1 sb _, OwnS 1 sc _] hg) hx.1 hx.2.2 (by show o < 8; exact ho) (fun z w hz h => ?_) (fun w hz h => ?_)
            · rw [hset.2 z] at h
              dsimp only at hK1
              rw [hz] at hK1
              refine hK1 (setNum s nm z) ds sd ss sb sc w rfl ?_ ?_
              · unfold setNum; split; exact hd; split; exact hd; split; exact hd; exact hd
              · unfold setNum at h ⊢
                by_cases h1 : nm = sSize
                · rw [if_pos h1] at h ⊢; exact h
                rw [if_neg h1] at h ⊢
                by_cases h1 : nm = sBudget
                · rw [if_pos h1] at h ⊢; exact h
                rw [if_neg h1] at h ⊢
                by_cases h1 : nm = sRoom
                · rw [if_pos h1] at h ⊢; exact h
                rw [if_neg h1] at h ⊢
                exact h
            · dsimp only at hK0
              rw [hz] at hK0
              exact hK0 w rfl h.drop.drop.drop.drop.drop.drop
          · refine hK0 w ?_ h.drop.drop.drop.drop.drop.drop.drop.drop
            match l, hl17 with
            | [], _ => rfl
            | [_], e => exact absurd (by rw [e]; rfl) h1
            | _ :: _ :: _, _ => rfl
        · have hnu' := hnu
          unfold isNum at hnu'
          simp only [not_or] at hnu'
          rw [if_neg hnu'.1, if_neg hnu'.2.1, if_neg hnu'.2.2.1, if_neg hnu'.2.2.2] at hMn
          have hq : findAt (strOf nm) M 0 = none := by
            cases hf : findAt (strOf nm) M 0 with
            | none => rfl
            | some q => rw [hf] at hMn; cases hMn
          rw [hq] at hlk
          refine RunR.lkP none false hlk ?_
          refine IfB.f rfl ?_
          have h := h.drop
          rw [show (ByteArray.mk #[102, 108, 117, 115, 104]) = strOf sFlush from rfl, show (ByteArray.mk #[99, 117, 116, 115]) = strOf sCuts from rfl, show (ByteArray.mk #[115, 112, 111, 105, 108]) = strOf sSpoil from rfl,
            show (ByteArray.mk #[119, 114, 105, 116, 101]) = strOf sWrite from rfl, show (ByteArray.mk #[98, 101, 104, 105, 110, 100]) = strOf sBehind from rfl, strOf_eq hnm.1 (by decide), strOf_eq hnm.1 (by decide), strOf_eq hnm.1 (by decide), strOf_eq hnm.1 (by decide), strOf_eq hnm.1 (by decide)]
          refine Join.of (fun r => r (decide (nm = sFlush ∧ l = [])) w) ?_ fun r hr => ?_
          · by_cases hf : nm = sFlush ∧ l = []
            · rw [decide_eq_true hf]
              obtain ⟨rfl, rfl⟩ := hf
              rw [saysW_flush, if_pos rfl] at hK1
              refine IfB.t rfl ?_
              refine Ld.xb (x := sd) h rfl ?_
              refine app1 (x := ((true, []), (⟨none, 0, 0⟩ : Sl))) ty_ops gD_len (by decide) rfl (gD_scalar _) (h.at 2) (by omega) (by omega) fun s' w h _ => ?_
              refine St.xb h (by simp) rfl (fun w h => ?_)
              have h := (h.no 1).at 1
              have h := (h.ownNil 1)
              have h := (Dx.app (d := ((true, []), (⟨none, 0, 0⟩ : Sl))) (h.at 3))
              exact hK1 { s with deeds := s.deeds ++ [(true, [])] } (ds ++ [((true, []), (⟨none, 0, 0⟩ : Sl))]) s' ss sb sc w rfl (by simp [hd]) ((h.at 2).at 2)
            · rw [decide_eq_false hf]
              refine IfB.f rfl ?_
              by_cases h2 : nm = sCuts
              · subst h2
                rw [saysW_cuts] at hK1 hK0
                refine IfB.t (by simp) ?_
                refine cuts_c h hg (by omega) ht17 (fun x hx => ?_) (by omega) (fun zs sc' w hn h0 h => ?_) (fun w ho h => ?_)
                · obtain ⟨j, hj, rfl⟩ := List.getElem_of_mem hx
                  exact ⟨(hrd j hj).1, (hrd j hj).2.2⟩
                · rw [if_neg h0, hn] at hK1
                  exact hK1 _ ds sd ss sb sc' w rfl hd h.drop
                · refine hK0 w ?_ h
                  split
                  · rfl
                  · rename_i h0
                    rcases ho with ho | ho
                    · exact absurd ho h0
                    · rw [ho]; rfl
              refine IfB.f (by simpa using h2) ?_
              refine Join.of (fun r => r (decide (nm = sSpoil ∧ l.length = 2)) w) ?_ fun r hr => ?_
              · by_cases hsp : nm = sSpoil ∧ l.length = 2
                · rw [decide_eq_true hsp]
                  obtain ⟨rfl, hl2⟩ := hsp
                  rw [saysW_spoil] at hK1 hK0
                  refine IfB.t rfl ?_
                  obtain ⟨x, y, rfl⟩ : ∃ x y, l = [x, y] := by
                    match l, hl2 with
                    | [x, y], _ => exact ⟨x, y, rfl⟩
                  have hx := hrd 0 (by simp)
                  have hy := hrd 1 (by simp)
                  rw [List.getElem_cons_zero] at hx
                  rw [List.getElem_cons_succ, List.getElem_cons_zero] at hy
                  dsimp only at hK1 hK0
                  rw [i0, i1]
                  refine Nw.mk h fun b116 w h => ?_
                  refine rdS (h.drop.tells (ht17 _)) (by simp) ?_
                  rw [List.getElem_cons_succ, List.getElem_cons_zero]
                  have none0 : ∀ {w : World}, (∀ z b, ¬ (num x = some z ∧ unhexW y = some [b])) → Hp E w F → K false w := fun hn h => by
                    refine hK0 _ ?_ h
                    cases hnx : num x with
                    | none => rfl
                    | some z =>
                      cases hny : unhexW y with
                      | none => rfl
                      | some b =>
                        match b with
                        | [] => rfl
                        | [c] => exact absurd ⟨hnx, hny⟩ (hn z c)
                        | _ :: _ :: _ => rfl
                  refine unhex_c h hy.1 hy.2.2 (fun sx b w hu hbb hbl h => ?_) (fun sx b w hu hbb hbl h => ?_)
                  · refine IfB.f rfl ?_
                    have hsx := h.ownLen
                    simp only [List.length_map, Nat.mul_one] at hsx
                    refine IfB.nm (fun hne => ?_) (fun he1 => ?_)
                    · refine none0 (fun z c hh => ?_) h.drop.drop.drop.drop.drop.drop.drop.drop.drop
                      rw [hu] at hh
                      have := hh.2
                      injection this with this
                      subst this
                      exact hne (by rw [← hsx]; rfl)
                    obtain ⟨c, rfl⟩ : ∃ c, b = [c] := List.length_eq_one_iff.1 (by omega)
                    refine rdS (h.drop.drop.tells (ht17 _)) (by simp) ?_
                    rw [List.getElem_cons_zero]
                    refine number_c h.p1 (Tells.cons (hgl A)) hx.1 hx.2.2 (by simp) (fun z w hnz h => ?_) (fun w hnz h => ?_)
                    · refine IfB.f rfl ?_
                      have ix : Idx sx 0 1 = Idx sx ((0 : Nat) : Int) 1 := rfl
                      rw [ix]
                      refine rdU (h.tells Tells.own.cons) (by simp) ?_
                      rw [List.getElem_cons_zero]
                      refine St.xb h (by simp) rfl (fun w h => ?_)
                      rw [hnz, hu] at hK1
                      refine Join.of (fun r => ∀ w, (∃ s' : Sl, Hp E w (Blk bs (.cells ⟨encs ksS (tS { s with spoils := s.spoils ++ [(z, c)] } sd s' sb sc)⟩ tySn (0, 0)) :: SnL ds { s with spoils := s.spoils ++ [(z, c)] } sd s' sb sc F)) → r w) (fun w ⟨s', h⟩ => ?_) fun r hr => ?_
                      · exact hK1 _ ds sd s' sb sc w rfl hd h
                      · refine Drw.mk h fun w h => ?_
                        refine Ld.xt (x := (z, (c : Int), ())) h rfl ?_
                        constructor
                        · refine Ld.xb (x := ss) h rfl ?_
                          refine app1 (x := (z, c)) ty_pats gP_len (by decide) rfl (gP_scalar _) (h.at 6) (by omega) (by omega) fun s' w h _ => ?_
                          refine St.xb h (by simp) rfl (fun w h => ?_)
                          exact hr w ⟨s', (((((h.no 1).no 1).no 1).at 3).at 3).at 3⟩
                        · refine Nw.mk h fun bn w h => ?_
                          refine Ld.xb (x := ss) h rfl ?_
                          have hs := (h.at 7).ownLen
                          rw [fm_len gP_len] at hs
                          refine run_append (ys := gP (z, c)) (n := 1) ty_pats (by decide) (.inl ⟨47, by kernel_rfl⟩) (h.at 7) (.inl ⟨_, _, _, rfl, rfl, h.tells (Tells.blk (xs := gP (z, c)) rfl (by simp [gP]))⟩) (by simp [gP]) (gP_scalar _) (by show (2 * (ss.len + 1) + 1024) * 16 ≤ 2 ^ 48; omega) (by show ss.len + 1 < 2 ^ 62; omega) fun s' w h _ => ?_
                          refine St.xb h (by simp) rfl (fun w h => ?_)
                          rw [show s.spoils.flatMap gP ++ gP (z, c) = (s.spoils ++ [(z, c)]).flatMap gP by simp] at h
                          exact hr w ⟨s', ((((((h.no 1).no 1).no 1).no 1).at 3).at 3).at 3⟩
                    · refine IfB.t rfl ?_
                      refine none0 (fun z c hh => ?_) h.drop.drop.drop.drop.drop.drop.drop.drop.drop
                      rw [hnz] at hh; cases hh.1
                  · refine IfB.t rfl ?_
                    refine none0 (fun z c hh => ?_) h.drop.drop.drop.drop.drop.drop.drop.drop.drop
                    rw [hu] at hh; cases hh.2
                · rw [decide_eq_false hsp]
                  refine IfB.f rfl ?_
                  refine Join.of (fun r => r (decide (isByt nm ∧ l.length = 1)) w) ?_ fun r hr => ?_
                  · by_cases hby : isByt nm ∧ l.length = 1
                    · rw [decide_eq_true hby]
                      obtain ⟨hby, hl1⟩ := hby
                      rw [saysW_byt hby] at hK1 hK0
                      refine IfB.t rfl ?_
                      obtain ⟨x, rfl⟩ : ∃ x, l = [x] := List.length_eq_one_iff.1 hl1
                      have hx := hrd 0 (by simp)
                      rw [List.getElem_cons_zero] at hx
                      dsimp only at hK1 hK0
                      rw [i0]
                      refine rdS (h.tells (ht17 _)) (by simp) ?_
                      rw [List.getElem_cons_zero]
                      have fin : ∀ (sx : Sl) (b : List Nat) (ok : Bool) (w : World), (unhexW x = some b ∧ ok = true ∨ unhexW x = none ∧ ok = false) → b.length ≤ x.length → Hp E w (OwnS 1 sx (b.map vB) :: A :: Blk bs (.cells ⟨encs ksS (tS s sd ss sb sc)⟩ tySn (0, 0)) :: SnL ds s sd ss sb sc F) →
                          IfB (nm == sWrite) (NilCk (some (⟨bs, 0, none⟩ : Addr)) fun p => Ld kS (p.add 2) w fun Deeds => Nw 40 ⟨[.bool false, .slice sx.base sx.len sx.cap]⟩ w fun b89 w => Run Tryd.prog (Builtin.append_ #[22, 22] 22 ⟨[.slice Deeds.base Deeds.len Deeds.cap, .slice (some ⟨b89, 0, none⟩) 1 1]⟩) kS w fun s91 w => NilCk (some (⟨bs, 0, none⟩ : Addr)) fun p => St (p.add 2) (.slice s91.base s91.len s91.cap) w fun w => K ok w)
                            (NilCk (some (⟨bs, 0, none⟩ : Addr)) fun p => Ld kS (p.add 5) w fun Behind => Run Tryd.prog (Builtin.append_ #[24, 24] 24 ⟨[.slice Behind.base Behind.len Behind.cap, .slice sx.base sx.len sx.cap]⟩) kS w fun s97 w => NilCk (some (⟨bs, 0, none⟩ : Addr)) fun p => St (p.add 5) (.slice s97.base s97.len s97.cap) w fun w => K ok w) := by
                        intro sx b ok w ho hbl h
                        have hsx := h.ownLen
                        simp only [List.length_map, Nat.mul_one] at hsx
                        by_cases h1 : nm = sWrite
                        · refine IfB.t (by simpa using h1) ?_
                          refine Ld.xb (x := sd) h rfl ?_
                          refine app1 (x := ((false, b), sx)) ty_ops gD_len (by decide) rfl (gD_scalar _) (h.at 3) (by omega) (by omega) fun s' w h _ => ?_
                          refine St.xb h (by simp) rfl (fun w h => ?_)
                          rcases ho with ⟨e, rfl⟩ | ⟨e, rfl⟩
                          · rw [e] at hK1
                            have h := h.no 2
                            have h := (Dx.app (d := ((false, b), sx)) ((h.at 1).at 3))
                            refine hK1 { s with deeds := s.deeds ++ [(false, b)] } (ds ++ [((false, b), sx)]) s' ss sb sc w (by rw [Option.map_some, if_pos h1]) (by simp [hd]) ?_
                            exact (h.at 1).at 2
                          · rw [e] at hK0
                            exact hK0 w rfl h.drop.drop.drop.drop.drop.drop.drop.drop
                        · refine IfB.f (by simpa using h1) ?_
                          refine Ld.xb (x := sb) h rfl ?_
                          have hob := (h.at 6).ownLen
                          simp only [List.length_map, Nat.mul_one] at hob
                          refine run_append (ys := b.map vB) (n := sx.len) ty_bytes (by decide) (.inl ⟨5, by kernel_rfl⟩) (h.at 6) (.inl ⟨_, _, _, rfl, rfl, h.tells Tells.own⟩) (by simp [hsx]) vB_scalar (by show (2 * (sb.len + sx.len) + 1024) * 1 ≤ 2 ^ 48; omega) (by show sb.len + sx.len < 2 ^ 62; omega) fun s' w h _ => ?_
                          refine St.xb h (by simp) rfl (fun w h => ?_)
                          rcases ho with ⟨e, rfl⟩ | ⟨e, rfl⟩
                          · rw [e] at hK1
                            rw [← List.map_append] at h
                            refine hK1 { s with behind := s.behind ++ b } ds sd ss s' sc w (by rw [Option.map_some, if_neg h1]) hd ?_
                            have h := (h.no 1).no 1
                            exact (((h.at 4).at 4).at 4).at 4
                          · rw [e] at hK0
                            exact hK0 w rfl h.drop.drop.drop.drop.drop.drop.drop.drop
                      refine unhex_c h hx.1 hx.2.2 (fun sx b w hu hbb hbl h => ?_) (fun sx b w hu hbb hbl h => ?_)
                      · exact fin sx b true w (.inl ⟨hu, rfl⟩) hbl h
                      · exact fin sx b false w (.inr ⟨hu, rfl⟩) hbl h
                    · rw [decide_eq_false hby]
                      refine IfB.f rfl ?_
                      refine hK0 w ?_ h.drop.drop.drop.drop.drop.drop.drop
                      by_cases hby1 : isByt nm
                      · rw [saysW_byt hby1]
                        match l, hby with
                        | [], _ => rfl
                        | [_], q => exact absurd ⟨hby1, rfl⟩ q
                        | _ :: _ :: _, _ => rfl
                      by_cases h1 : nm = sFlush
                      · subst h1
                        rw [saysW_flush, if_neg (fun e => hf ⟨rfl, e⟩)]
                      by_cases h3 : nm = sSpoil
                      · subst h3
                        rw [saysW_spoil]
                        match l, hsp with
                        | [], _ => rfl
                        | [_], _ => rfl
                        | [_, _], q => exact absurd ⟨rfl, rfl⟩ q
                        | _ :: _ :: _ :: _, _ => rfl
                      exact saysW_none h35 hnu hby1 h1 h2 h3
                  · have e1 : ((s17.len : Int) == 1) = decide (l.length = 1) := by
                      rw [Bool.eq_iff_iff, beq_iff_eq, decide_eq_true_iff]; omega
                    rw [e1]
                    by_cases c1 : nm = sWrite
                    · refine IfB.t (by simpa using c1) ?_
                      have : decide (isByt nm ∧ l.length = 1) = decide (l.length = 1) := decide_eq_decide.2 ⟨fun h => h.2, fun h => ⟨.inl c1, h⟩⟩
                      rw [this] at hr; exact hr
                    refine IfB.f (by simpa using c1) ?_
                    by_cases c2 : nm = sBehind
                    · refine IfB.t (by simpa using c2) ?_
                      have : decide (isByt nm ∧ l.length = 1) = decide (l.length = 1) := decide_eq_decide.2 ⟨fun h => h.2, fun h => ⟨.inr c2, h⟩⟩
                      rw [this] at hr; exact hr
                    refine IfB.f (by simpa using c2) ?_
                    rw [decide_eq_false (fun h => h.1.elim c1 c2)] at hr
                    exact hr
              · have e1 : ((s17.len : Int) == 2) = decide (l.length = 2) := by
                  rw [Bool.eq_iff_iff, beq_iff_eq, decide_eq_true_iff]; omega
                rw [e1]
                by_cases c1 : nm = sSpoil
                · refine IfB.t (by simpa using c1) ?_
                  have : decide (nm = sSpoil ∧ l.length = 2) = decide (l.length = 2) := decide_eq_decide.2 ⟨fun h => h.2, fun h => ⟨c1, h⟩⟩
                  rw [this] at hr; exact hr
                refine IfB.f (by simpa using c1) ?_
                rw [decide_eq_false (fun h => c1 h.1)] at hr
                exact hr
          · have e1 : ((s17.len : Int) == 0) = decide (l = []) := by
              rw [Bool.eq_iff_iff, beq_iff_eq, decide_eq_true_iff, ← List.length_eq_zero_iff]; omega
            rw [e1]
            by_cases c1 : nm = sFlush
            · refine IfB.t (by simpa using c1) ?_
              have : decide (nm = sFlush ∧ l = []) = decide (l = []) := decide_eq_decide.2 ⟨fun h => h.2, fun h => ⟨c1, h⟩⟩
              rw [this] at hr; exact hr
            refine IfB.f (by simpa using c1) ?_
            rw [decide_eq_false (fun h => c1 h.1)] at hr
            exact hr
      · have up : ∀ {m : Option Nat} {M : List (ByteArray × Addr)} {f : ByteArray → Option Addr} {G : List HP} {w : World} {K : Value → World → Prop} (a : ByteArray) (b : Addr), Hp E w (OwnM keS veA m M :: G) → Has M f → (∀ M' w', Has M' (fun x => if x = a then some b else f x) → Hp E w' (OwnM keS veA m M' :: G) → K undef w') →
            Run Tryd.prog (do Instr.mapUpdate 81 (.map m) (.string a) (.pointer (some b)); pure undef) kV w K := fun a b h hm hK =>
          run_mapUpdate (ke := keS) (ve := veA) (a := a) (b := b) keyOk_S ty_mapS h fun w' h' => hK _ w' (hm.upd a b) h'
        have dis : strOf sSize ≠ strOf sBudget ∧ strOf sSize ≠ strOf sRoom ∧ strOf sSize ≠ strOf sDrop ∧ strOf sBudget ≠ strOf sRoom ∧ strOf sBudget ≠ strOf sDrop ∧ strOf sRoom ≠ strOf sDrop := by
          refine ⟨?_, ?_, ?_, ?_, ?_, ?_⟩ <;> (rw [Ne, strOf_inj (by decide) (by decide)]; decide)
        unfold fin4 at hr
        rw [show (ByteArray.mk #[115, 105, 122, 101]) = strOf sSize from rfl, show (ByteArray.mk #[98, 117, 100, 103, 101, 116]) = strOf sBudget from rfl, show (ByteArray.mk #[114, 111, 111, 109]) = strOf sRoom from rfl, show (ByteArray.mk #[100, 114, 111, 112]) = strOf sDrop from rfl]
        generalize strOf sSize = k1 at hr dis ⊢
        generalize strOf sBudget = k2 at hr dis ⊢
        generalize strOf sRoom = k3 at hr dis ⊢
        generalize strOf sDrop = k4 at hr dis ⊢
        obtain ⟨d1, d2, d3, d4, d5, d6⟩ := dis
        refine Drw.mk h fun w h => ?_
        refine NilCk.mk (NilCk.mk (NilCk.mk (NilCk.mk ?_)))
        refine run_makeMap (ke := keS) (ve := veA) h fun m w h => ?_
        have hm : Has ([] : List (ByteArray × Addr)) (fun _ => none) := Has.nil
        repeat' (first | (refine up _ _ (by assumption) (by assumption) (fun M w hm h => ?_)) | (refine And.intro ?_ ?_))
        all_goals (refine hr _ _ _ (Has.congr (by assumption) (fun x => ?_)) (by assumption))
        all_goals (by_cases e1 : x = k1 <;> by_cases e2 : x = k2 <;> by_cases e3 : x = k3 <;> by_cases e4 : x = k4 <;> first | (exfalso; first | exact d1 (e1.symm.trans e2) | exact d2 (e1.symm.trans e3) | exact d3 (e1.symm.trans e4) | exact d4 (e2.symm.trans e3) | exact d5 (e2.symm.trans e4) | exact d6 (e3.symm.trans e4)) | simp only [if_pos e1, if_neg e2, if_neg e3, if_neg e4] | simp only [if_neg e1, if_pos e2, if_neg e3, if_neg e4] | simp only [if_neg e1, if_neg e2, if_pos e3, if_neg e4] | simp only [if_neg e1, if_neg e2, if_neg e3, if_pos e4] | simp only [if_neg e1, if_neg e2, if_neg e3, if_neg e4])
    · refine IfB.ef (by omega) ?_
      have hin : Idx s4 0 1 = Idx s4 ((0 : Nat) : Int) 1 := rfl
      rw [hin]
      refine rdS (h.tells (ht4 _)) (by simp) ?_
      rw [List.getElem_cons_zero, strOf_size]
      have hpos := List.length_pos_iff.2 hnm.2.1
      have hh : nm.head? = some nm[0] := by rw [List.head?_eq_getElem?, List.getElem?_eq_getElem hpos]
      rw [Int.toNat_zero, strAt_of hnm.1 hpos]
      refine ⟨by omega, by omega, ?_⟩
      refine IfB.em (fun h1 => ?_) (fun h1 => ?_)
      · refine hK1 s ds _ _ _ _ w ?_ hd h.drop
        exact saysW_rem (by rw [hh]; congr 1; omega)
      · exact hr (by rw [hh]; intro e; injection e with e; omega)
end
end Go.Proofs.YtdfalolgngnelaaDoor
/- SmE -/
namespace Go.Proofs.YtdfalolgngnelaaDoor
open Go Go.Vc Go.Scr Go.Sort
set_option linter.unusedSectionVars false
section
variable {E w : World} {F : List HP}
set_option maxRecDepth 20000
/-- the texts that are handed to Parse -/
def Txts (F : List HP) (s : Sl) (xs : List (List Nat)) : Prop := (s = ⟨none, 0, 0⟩ ∧ xs = []) ∨ ∃ bk n c, s = ⟨some ⟨bk, 0, none⟩, n, c⟩ ∧ n ≤ c ∧ Tells F (SlT 1 s (xs.map vS))
theorem Txts.cons {A : HP} {s : Sl} {xs : List (List Nat)} (h : Txts F s xs) : Txts (A :: F) s xs := by
  rcases h with h | ⟨bk, n, c, h1, h2, h3⟩
  · exact .inl h
  · exact .inr ⟨bk, n, c, h1, h2, h3.cons⟩
theorem joinN (xs : List (List Nat)) : Lib.join ((xs.map strOf).map (·.data.toList)) (ByteArray.mk #[]).data.toList = xs.flatten.map UInt8.ofNat := by
  rw [show (ByteArray.mk #[]).data.toList = [] from rfl]
  cases xs with
  | nil => rfl
  | cons x r =>
    rw [List.map_cons, List.map_cons, Lib.join_cons]
    unfold Lib.joinTail
    rw [strOf_data, List.flatten_cons, List.map_append]
    congr 1
    induction r with
    | nil => rfl
    | cons y r ih =>
      rw [List.map_cons, List.map_cons, List.map_cons, List.flatten_cons, List.flatten_cons, List.map_append, ih, strOf_data]; rfl
theorem join_c {s : Sl} {xs : List (List Nat)} {K : ByteArray → World → Prop} (h : Hp E w F) (hs : Txts F s xs) (hl : xs.flatten.length ≤ 100000000) (hn : xs.length ≤ 1000000) (hK : ∀ w', Hp E w' F → K (strOf xs.flatten) w') :
    Cl Tryd.prog [kStr] n_strings_Join ⟨[.slice s.base s.len s.cap, .string (ByteArray.mk #[])]⟩ w K := by
  have none0 : ∀ (a : Option Addr) (c : Nat), xs = [] → Cl Tryd.prog [kStr] n_strings_Join ⟨[.slice a 0 c, .string (ByteArray.mk #[])]⟩ w K := by
    intro a c e
    refine Calls.mono (Go.Proofs.Tryd.strings_Join_none a c (ByteArray.mk #[]) w) fun e w' he => ?_
    obtain ⟨rfl, rfl⟩ := he
    subst e
    exact hK _ h
  rcases hs with ⟨rfl, rfl⟩ | ⟨bk, n, c, rfl, hc, ht⟩
  · exact none0 none 0 rfl
  · have hS := h.tells ht
    have hlen := hS.1
    simp only [List.length_map, Nat.mul_one] at hlen
    subst hlen
    by_cases h0 : xs = []
    · subst h0
      exact none0 _ _ rfl
    · have hcell : ∀ j x, (xs.map strOf)[j]? = some x → w.cell? ⟨bk, 0 + j, none⟩ = some (.string x) := by
        intro j x hj
        rw [List.getElem?_map] at hj
        obtain ⟨y, hy, rfl⟩ := Option.map_eq_some_iff.1 hj
        have hlt : j < xs.length := (List.getElem?_eq_some_iff.1 hy).1
        obtain ⟨p, hp, hcc⟩ := hS.2 j (by simpa using hlt)
        cases hp
        rw [add_mk] at hcc
        rw [hcc, List.getElem_map]
        have := (List.getElem?_eq_some_iff.1 hy).2
        rw [this]; rfl
      have hbk : bk < w.heap.size := by
        have hpos := List.length_pos_iff.2 h0
        have := hcell 0 (strOf xs[0]) (by rw [List.getElem?_map, List.getElem?_eq_getElem hpos]; rfl)
        unfold World.cell? at this
        rcases Nat.lt_or_ge bk w.heap.size with q | q
        · exact q
        · simp [Array.getElem?_eq_none q] at this
      have key := Go.Proofs.Tryd.strings_Join bk 0 c (xs.map strOf) (ByteArray.mk #[]) w hcell hbk (by rw [List.length_map]; omega) (by rw [List.length_map]; exact hc) (by rw [joinN, List.length_map]; omega)
      rw [List.length_map] at key
      refine Calls.mono key fun e w' he => ?_
      obtain ⟨rfl, hb⟩ := he
      have e : (⟨(Lib.join ((xs.map strOf).map (·.data.toList)) (ByteArray.mk #[]).data.toList).toArray⟩ : ByteArray) = strOf xs.flatten := ba_ext (by rw [joinN, strOf_data])
      rw [e]
      exact hK w' (Hp.kept h hb)
/-- the scenario of a text, as far as it was read: k lines -/
structure PrS where
  s : Scn
  ds : List Dd
  sd : Sl
  ss : Sl
  sb : Sl
  sc : Sl
def PrX (t : List Nat) (i : Nat) (x : PrS) : Prop := plays scn0 1 (lns t) = plays x.s (i + 1) ((lns t).drop i) ∧ sz x.s ≤ (((lns t).take i).map List.length).sum ∧ x.ds.map (·.1) = x.s.deeds
def PrL (b : Nat) (x : PrS) : List HP := Blk b (.cells ⟨encs ksS (tS x.s x.sd x.ss x.sb x.sc)⟩ tySn (0, 0)) :: SnL x.ds x.s x.sd x.ss x.sb x.sc []
abbrev nS : Sl := ⟨none, 0, 0⟩
abbrev B0 (b : Nat) : HP := Blk b (.cells ⟨encs ksS (tS scn0 nS nS nS nS)⟩ tySn (0, 0))
abbrev BI (b : Nat) (t : TypeId) (z : Int) : HP := Blk b (.cells ⟨[.int .i64 z]⟩ t (0, 0))
set_option maxHeartbeats 2000000 in
theorem parse_c {sx : Sl} {xs : List (List Nat)} {K : TT ksS → Int → Int → World → Prop} (h : Hp E w F) (hg : Tells F Gl) (hs : Txts F sx xs) (hn : xs.length ≤ 1000000) (ht : Bt xs.flatten) (hl : xs.flatten.length ≤ 100000)
    (hK : ∀ ds sd ss sb sc w', ds.map (·.1) = (pres xs.flatten).1.deeds → Hp E w' (SnL ds (pres xs.flatten).1 sd ss sb sc F) → K (tS (pres xs.flatten).1 sd ss sb sc) (pres xs.flatten).2.1 (pres xs.flatten).2.2 w') :
    Cl Tryd.prog [.st ksS, kI, kI] n_script_Parse ⟨[.slice sx.base sx.len sx.cap]⟩ w K := by
  refine script_Parse.ok _ _ _ ?_
  unfold script_Parse.E
  refine Nw.mk h fun b3 w h => ?_
  refine Nw.mk h fun b5 w h => ?_
  refine Nw.mk h fun b7 w h => ?_
  refine join_c h hs.cons.cons.cons (by omega) hn fun w h => ?_
  generalize xs.flatten = t at ht hl hK
  rw [strOf_size]
  have hls := lns_sum t
  have hbt := lns_bt ht
  have out : ∀ (w : World) (n e : Int), pres t = (scn0, n, e) → Hp E w (BI b7 30 e :: BI b5 3 n :: B0 b3 :: F) →
      Ld (.st ksS) (⟨b3, 0, none⟩ : Addr) w fun res14 => Ld kI (⟨b5, 0, none⟩ : Addr) w fun res15 => Ld kI (⟨b7, 0, none⟩ : Addr) w fun res16 => K res14 res15 res16 w := by
    intro w n e hp h
    refine Ld.xt (x := tS scn0 nS nS nS nS) h rfl ?_
    refine Ld.xb (x := n) h rfl (Ld.xb (x := e) h rfl ?_)
    rw [hp] at hK
    refine hK [] _ _ _ _ w rfl ?_
    have h := h.drop.drop.drop
    exact (((((h.ownNil 1).ownNil 1).ownNil 2).emp rfl : Hp E w (Dx [] :: _)).ownNil 2)
  have bad : ∀ (w : World), pres t = (scn0, 0, 301) → Hp E w (BI b7 30 0 :: BI b5 3 0 :: B0 b3 :: F) →
      Ld (.st ksS) (⟨b3, 0, none⟩ : Addr) w fun x10 => StC (⟨b3, 0, none⟩ : Addr) (encs ksS x10) 0 w fun w => St (⟨b5, 0, none⟩ : Addr) (.int .i64 0) w fun w => St (⟨b7, 0, none⟩ : Addr) (.int .i64 301) w fun w =>
      Ld (.st ksS) (⟨b3, 0, none⟩ : Addr) w fun res14 => Ld kI (⟨b5, 0, none⟩ : Addr) w fun res15 => Ld kI (⟨b7, 0, none⟩ : Addr) w fun res16 => K res14 res15 res16 w := by
    intro w hp h
    refine Ld.xt (x := tS scn0 nS nS nS nS) h rfl ?_
    refine StC.xw h (by rfl) (by rfl) (fun w h => ?_)
    refine St.xb h (by simp) rfl fun w h => ?_
    refine St.xb h (by simp) rfl fun w h => ?_
    exact out w 0 301 hp h
  refine IfB.dm (fun h1 => ?_) (fun h1 => ?_)
  · refine bad w ?_ h
    unfold pres parse
    rw [if_pos (.inl (by omega))]
  refine many_c h hg.cons.cons.cons ht (by omega) fun w h => ?_
  refine IfB.dm (fun h2 => ?_) (fun h2 => ?_)
  · refine bad w ?_ h
    unfold pres parse
    rw [if_pos (.inr (by omega))]
  have hpl : parse t = plays scn0 1 (lns t) := by unfold parse; rw [if_neg (by omega)]
  refine Nw.mk h fun b27 w h => ?_
  refine script_lines.ok _ _ _ ?_
  unfold script_lines.E
  refine Nw.mk h fun b28 w h => ?_
  have hP0 : Hp E w (Ex1 (PrX t 0) (PrL b27) :: Blk b28 (.cells ⟨[vS t]⟩ 9 (0, 0)) :: BI b7 30 0 :: BI b5 3 0 :: B0 b3 :: F) := by
    refine Hp.mkEx ⟨scn0, [], nS, nS, nS, nS⟩ ⟨rfl, Nat.zero_le _, rfl⟩ ?_
    have h := (((((h.ownNil 1).ownNil 1).ownNil 2).emp rfl : Hp E w (Dx [] :: _)).ownNil 2)
    exact h.at 6
  refine Rng.two (x := fun i => ((i : Int) + 1)) (y := fun i => strOf ((lns t).getD i [])) (fun i => Ex1 (PrX t i) (PrL b27) :: BI b7 30 0 :: BI b5 3 0 :: B0 b3 :: F)
    (fun i => (fun f => f = Frag.emp ∧ pres t = (scn0, (i : Int) + 1, 300)) :: BI b7 30 300 :: BI b5 3 ((i : Int) + 1) :: B0 b3 :: F) (hP0.at 1) (fun i => hg.cons.cons.cons.cons) (lines_iter ht (by omega)) ?_ ?_ ?_
  · intro l rec i A w Kt Kf hi h hKt hKf
    refine Beg.mk h fun w h => ?_
    obtain ⟨⟨s, ds, sd, ss, sb, sc⟩, ⟨hp, hsz, hd⟩, h⟩ := (h.p1).ex
    dsimp only at hp hsz hd
    have h : Hp E w (Blk b27 (.cells ⟨encs ksS (tS s sd ss sb sc)⟩ tySn (0, 0)) :: SnL ds s sd ss sb sc (Blk l (rec 1) :: BI b7 30 0 :: BI b5 3 0 :: B0 b3 :: (F ++ A))) := h
    have hdr := List.drop_eq_getElem_cons hi
    have hgd : (lns t).getD i [] = (lns t)[i] := by rw [List.getD_eq_getElem?_getD, List.getElem?_eq_getElem hi, Option.getD_some]
    rw [hdr] at hp
    have hsum : (((lns t).take (i + 1)).map List.length).sum = (((lns t).take i).map List.length).sum + (lns t)[i].length := by
      rw [List.take_add_one, List.getElem?_eq_getElem hi, Option.toList_some, List.map_append, List.sum_append]; simp
    have hle : (((lns t).take (i + 1)).map List.length).sum ≤ t.length := by
      have e := congrArg (fun l => (l.map List.length).sum) (List.take_append_drop (i + 1) (lns t))
      simp only [List.map_append, List.sum_append] at e
      omega
    have hb1 := hbt (lns t)[i] (List.getElem_mem _)
    rw [hgd]
    have hgF : Tells (Blk l (rec 1) :: BI b7 30 0 :: BI b5 3 0 :: B0 b3 :: (F ++ A)) Gl := hg.appL.cons.cons.cons.cons
    refine says_c h hgF hd (by omega) hb1 (by omega) (fun s' ds' sd' ss' sb' sc' w e hd' h => ?_) (fun w e h => ?_)
    · refine IfB.f rfl ?_
      have h : Hp E w (Blk l (rec 1) :: (PrL b27 ⟨s', ds', sd', ss', sb', sc'⟩ ++ (BI b7 30 0 :: BI b5 3 0 :: B0 b3 :: (F ++ A)))) := h.perm (List.perm_middle (l₁ := PrL b27 ⟨s', ds', sd', ss', sb', sc'⟩))
      refine EndT.mk h fun w h => hKt w ?_
      have hsy := says_sz hb1 e
      refine Hp.p1 (Hp.mkEx ⟨s', ds', sd', ss', sb', sc'⟩ ⟨?_, ?_, hd'⟩ (h.perm (List.perm_middle (l₁ := PrL b27 ⟨s', ds', sd', ss', sb', sc'⟩)).symm))
      · dsimp only
        rw [hp, plays_cons e]
      · dsimp only
        omega
    · refine IfB.t rfl ?_
      refine Ld.xt (x := tS scn0 nS nS nS nS) h rfl ?_
      refine StC.xw h (by rfl) (by rfl) (fun w h => ?_)
      refine St.xb h (by simp) rfl fun w h => ?_
      refine St.xb h (by simp) rfl fun w h => ?_
      refine EndF.mk h fun w h => hKf w ?_
      have hpr : pres t = (scn0, (i : Int) + 1, 300) := by
        unfold pres
        rw [hpl, hp, plays, e]
      exact Hp.p1 (h.emp ⟨rfl, hpr⟩)
  · intro D w h
    obtain ⟨⟨s, ds, sd, ss, sb, sc⟩, ⟨hp, hsz, hd⟩, h⟩ := (h.p1).ex
    dsimp only at hp hsz hd
    rw [List.drop_length, plays] at hp
    have hps : pres t = (s, 0, 0) := by unfold pres; rw [hpl, hp]
    rw [hps] at hK
    have h : Hp E w (Blk b27 (.cells ⟨encs ksS (tS s sd ss sb sc)⟩ tySn (0, 0)) :: SnL ds s sd ss sb sc (Blk D (.deferred (some [])) :: BI b7 30 0 :: BI b5 3 0 :: B0 b3 :: F)) := h
    refine Ld.xt (x := tS s sd ss sb sc) h rfl ?_
    refine StC.xw h (by rfl) (by rfl) (fun w h => ?_)
    refine St.xb h (by simp) rfl fun w h => ?_
    refine St.xb h (by simp) rfl fun w h => ?_
    refine Dfr.mk1 (h.at 6) fun w h => ?_
    refine Ld.xt (x := tS s sd ss sb sc) h rfl ?_
    refine Ld.xb (x := 0) h rfl (Ld.xb (x := 0) h rfl ?_)
    refine hK ds _ _ _ _ w hd ?_
    exact ((h.drop.no 5).no 5).no 5
  · intro i D w hi h
    obtain ⟨f, a, b⟩ := h.p1.frag
    obtain ⟨g, k, _, _, ⟨_, hpr⟩, _⟩ := b
    refine Dfr.mk1 (h.no 1) fun w h => ?_
    exact out w ((i : Int) + 1) 300 hpr h
end
end Go.Proofs.YtdfalolgngnelaaDoor
/- SmF -/
namespace Go.Proofs.YtdfalolgngnelaaDoor
open Go Go.Vc Go.Scr Go.Sort
set_option linter.unusedSectionVars false
section
variable {E w : World} {F : List HP}
set_option maxRecDepth 20000
abbrev tyB : TypeId := 63
/-- a builder in block b, above all blocks of F, that holds l -/
structure Bd (E : World) (b : Nat) (F : List HP) (l : List Nat) (w : World) : Prop where
  bd : Lib.IsBuilderF tyB 5 b b (Lib.byteCells (l.map UInt8.ofNat)) w
  hb : b ≤ w.heap.size
  low : ∃ w0, Hp E w0 F ∧ w0.heap.size ≤ b ∧ Go.RowKit.Below b w0 w
theorem Bd.hp {b : Nat} {l : List Nat} (B : Bd E b F l w) : Hp E w F := by
  obtain ⟨w0, h, hs, hb⟩ := B.low
  exact Hp.kept h (hb.mono hs)
theorem isB_later {T e : TypeId} {B b : Nat} {bs : List Value} {w w' : World} (h : Lib.IsBuilderF T e B b bs w) (hb : Go.RowKit.Below w.heap.size w w') : Lib.IsBuilderF T e B b bs w' := by
  have one : ∀ {p : Value}, Lib.BuilderAtF T e B b p bs w → Lib.BuilderAtF T e B b p bs w' := by
    rintro p ⟨hB, v, hbk, ⟨hl, hr⟩, hne⟩
    have keep : ∀ {k : Nat} {o : Obj}, w.heap[k]? = some o → w'.heap[k]? = some o := fun {k o} hk => by
      rw [hb.block k (Array.getElem?_eq_some_iff.1 hk).1]; exact hk
    refine ⟨hB, v, keep hbk, ⟨hl, ?_⟩, hne⟩
    rcases hr with hr | ⟨g, cap, cur, fz, h1, h2, h3, h4⟩
    · exact .inl hr
    · exact .inr ⟨g, cap, cur, fz, h1, h2, keep h3, h4⟩
  rcases h with h | h
  · exact .inl (one h)
  · exact .inr (one h)
theorem Bd.later {b : Nat} {l : List Nat} {w' : World} (B : Bd E b F l w) (hb : Go.RowKit.Below w.heap.size w w') : Bd E b F l w' := by
  refine ⟨isB_later B.bd hb, Nat.le_trans B.hb hb.size, ?_⟩
  obtain ⟨w0, h, hs, hb0⟩ := B.low
  exact ⟨w0, h, hs, hb0.trans (hb.mono B.hb)⟩
theorem Bd.new {K : Nat → World → Prop} (h : Hp E w F) (hK : ∀ b w', Bd E b F [] w' → K b w') : Nw tyB ⟨[.pointer none, .slice none 0 0]⟩ w K := by
  refine hK _ _ ⟨.inl ⟨Nat.le_refl _, .slice none 0 0, ?_, ⟨rfl, .inl ⟨rfl, rfl⟩⟩, by simp [Value.ownBlock]⟩, ?_, w, h, Nat.le_refl _, ?_⟩
  · show (w.heap.push _)[w.heap.size]? = _
    simp
  · show w.heap.size ≤ (w.heap.push _).size
    simp
  · refine ⟨rfl, rfl, rfl, by show w.heap.size ≤ (w.heap.push _).size; simp, fun k hk => ?_⟩
    show (w.heap.push _)[k]? = _
    rw [Array.getElem?_push, if_neg (by omega)]
theorem Bd.write {b : Nat} {l x : List Nat} {K : Int → Value → World → Prop} (B : Bd E b F l w) (hl : l.length + x.length ≤ 1000000000) (hK : ∀ n e w', Bd E b F (l ++ x) w' → Lib.OthersKept 5 (some b) w w' → K n e w') :
    Cl Tryd.prog [kI, kV] n_strings_Builder_WriteString ⟨[.pointer (some ⟨b, 0, none⟩), .string (strOf x)]⟩ w K := by
  have key := Any.Builder_WriteString_k (ρ := Tryd.lays156_ren) { Go.Proofs.Tryd.lays156 with } Go.Proofs.Tryd.Builder_Extra_156 b b (Lib.byteCells (l.map UInt8.ofNat)) (strOf x) w B.bd (by rw [Lib.byteCells_length, List.length_map, strOf_size]; omega) B.hb
  refine Calls.mono key fun e w' he => ?_
  obtain ⟨rfl, h1, h2, h3⟩ := he
  refine hK _ _ w' ⟨.inr ?_, Nat.le_trans B.hb h2.size, ?_⟩ h3
  · rw [Lib.strCells_eq, strOf_data, ← Lib.byteCells_append, ← List.map_append] at h1
    exact h1
  · obtain ⟨w0, h, hs, hb0⟩ := B.low
    exact ⟨w0, h, hs, hb0.trans h2⟩
theorem Bd.string {b : Nat} {l : List Nat} {K : ByteArray → World → Prop} (B : Bd E b F l w) (hK : ∀ w', Hp E w' F → K (strOf l) w') : Cl Tryd.prog [kStr] n_strings_Builder_String ⟨[.pointer (some ⟨b, 0, none⟩)]⟩ w K := by
  refine Calls.mono (Go.Proofs.Tryd.Builder_String_any_k b b (l.map UInt8.ofNat) w B.bd B.hb) fun e w' he => ?_
  obtain ⟨rfl, _, h2, _⟩ := he
  have e : (⟨(l.map UInt8.ofNat).toArray⟩ : ByteArray) = strOf l := ba_ext (by rw [strOf_data])
  rw [e]
  refine hK w' ?_
  obtain ⟨w0, h, hs, hb0⟩ := B.low
  exact Hp.kept h ((hb0.trans h2).mono hs)
/-- a slice that is read, in an older world -/
theorem SlT.old {W : World} {G : List HP} {sz : Nat} {s : Sl} {xs : List Value} (h : SlT sz s xs W) : Tells (Old W :: G) (SlT sz s xs) := Tells.slT h
theorem Gl.old {W : World} {G : List HP} (h : Gl W) : Tells (Old W :: G) Gl := by
  refine Tells.old fun w hw => ?_
  have cell : ∀ {p : Addr} {v : Value}, W.cell? p = some v → w.cell? p = some v := fun {p v} hc => by
    have hlt : p.block < W.heap.size := by
      unfold World.cell? at hc
      rcases Nat.lt_or_ge p.block W.heap.size with hh | hh
      · exact hh
      · simp [Array.getElem?_eq_none hh] at hc
    rw [← hc]
    unfold World.cell?
    rw [hw _ hlt]
  obtain ⟨⟨m, h1⟩, h2, ⟨e2, h3, h4⟩, ⟨e3, h5, h6⟩⟩ := h
  refine ⟨⟨m, cell h1⟩, ?_, ⟨e2, cell h3, h4⟩, ⟨e3, cell h5, h6⟩⟩
  unfold Lib.TabIs World.var? at h2 ⊢
  cases hg : Tryd.prog.globalNamed "internal/strconv.uint64pow10" with
  | none => rw [hg] at h2; cases h2
  | some g =>
    rw [hg] at h2
    simp only [Option.bind_some] at h2 ⊢
    rcases Nat.lt_or_ge g W.heap.size with q | q
    · rw [hw g q]; exact h2
    · rw [Array.getElem?_eq_none q] at h2; cases h2
theorem Tells.oldB {W : World} {G : List HP} {b : Nat} {c : Array Value} {t : TypeId} {fr : Nat × Nat} (h : HoldB b c t fr W) : Tells (Old W :: G) (HoldB b c t fr) := by
  refine Tells.old fun w hw => ?_
  have h : W.heap[b]? = some (.cells c t fr) := h
  have hlt : b < W.heap.size := (Array.getElem?_eq_some_iff.1 h).1
  show w.heap[b]? = _
  rw [hw b hlt]; exact h
end
end Go.Proofs.YtdfalolgngnelaaDoor
/- Fslices -/
namespace Go.Proofs.YtdfalolgngnelaaDoor
open Go Go.Vc
/-- slices.ContainsFunc[[]int,int] -/
def slices_ContainsFunc_int_int.E (s1 : Sl) (f2 : Value) (R : Bool → World → Prop) (w : World) : Prop :=
 Cl Tryd.prog [kI] n_slices_IndexFunc_int_int ⟨[(.slice s1.base s1.len s1.cap), f2]⟩ w fun (r4 : Int) (w_3 : World) =>
 R ((decide ((r4 : Int) ≥ (0 : Int)))) w_3
theorem slices_ContainsFunc_int_int.ok (s1 : Sl) (f2 : Value) (R : Bool → World → Prop) (w : World) (h : slices_ContainsFunc_int_int.E s1 f2 R w) : Cl Tryd.prog [kB] n_slices_ContainsFunc_int_int ⟨[(.slice s1.base s1.len s1.cap), f2]⟩ w R :=
  calls_of_eq Tryd.mix Tryd.f24 [(.slice s1.base s1.len s1.cap), f2] [kB] R 9 [.tmp 4] (by kernel_rfl) (by kernel_rfl) (by kernel_rfl) (by kernel_rfl) (by kernel_rfl)
    (.s .o (.s .o .o))
    (by kernel_rfl) h
set_option maxRecDepth 100000 in
/-- slices.EqualFunc[[]api.Op,[]api.Op,api.Op,api.Op] -/
def slices_EqualFunc_api_Op_api_Op_api_Op_api_Op.E (s11 : Sl) (s22 : Sl) (eq3 : Value) (R : Bool → World → Prop) (w : World) : Prop :=
 IfB (((s11.len : Int) : Int) != ((s22.len : Int) : Int))
 (R (false) w)
 (∃ (I_4 : Int → World → Prop) (m_5 : Int → World → Nat), I_4 (0) w ∧
 ∀ (t17_6 : Int), ∀ (w_7 : World), I_4 t17_6 w_7 →
 IfB (decide ((t17_6 : Int) < ((s11.len : Int) : Int)))
 (Idx s11 t17_6 2 fun (q8 : Addr) =>
 Ld (.st [.bool, .sl]) q8 w_7 fun (x9 : (TT [.bool, .sl])) =>
 Nw 40 ⟨[(.bool false), (.slice none 0 0)]⟩ w_7 fun (b11 : Nat) (w_10 : World) =>
 StC (⟨b11, 0, none⟩ : Addr) [(.bool x9.1), (.slice x9.2.1.base x9.2.1.len x9.2.1.cap)] 0 w_10 fun (w_12 : World) =>
 Idx s22 t17_6 2 fun (q13 : Addr) =>
 Ld (.st [.bool, .sl]) q13 w_12 fun (x14 : (TT [.bool, .sl])) =>
 Nw 40 ⟨[(.bool false), (.slice none 0 0)]⟩ w_12 fun (b16 : Nat) (w_15 : World) =>
 StC (⟨b16, 0, none⟩ : Addr) [(.bool x14.1), (.slice x14.2.1.base x14.2.1.len x14.2.1.cap)] 0 w_15 fun (w_17 : World) =>
 Ld (.st [.bool, .sl]) (⟨b11, 0, none⟩ : Addr) w_17 fun (x18 : (TT [.bool, .sl])) =>
 Ld (.st [.bool, .sl]) (⟨b16, 0, none⟩ : Addr) w_17 fun (x19 : (TT [.bool, .sl])) =>
 ClX Tryd.prog eq3 [kB] [(.agg ⟨[(.bool x18.1), (.slice x18.2.1.base x18.2.1.len x18.2.1.cap)]⟩), (.agg ⟨[(.bool x19.1), (.slice x19.2.1.base x19.2.1.len x19.2.1.cap)]⟩)] w_17 fun (r21 : Bool) (w_20 : World) =>
 IfB (!r21)
 (R (false) w_20)
 (I_4 ((i64 ((t17_6 : Int) + (1 : Int)))) w_20 ∧ m_5 ((i64 ((t17_6 : Int) + (1 : Int)))) w_20 < m_5 t17_6 w_7))
 (R (true) w_7))
set_option maxRecDepth 100000 in
theorem slices_EqualFunc_api_Op_api_Op_api_Op_api_Op.ok (s11 : Sl) (s22 : Sl) (eq3 : Value) (R : Bool → World → Prop) (w : World) (h : slices_EqualFunc_api_Op_api_Op_api_Op_api_Op.E s11 s22 eq3 R w) : Cl Tryd.prog [kB] n_slices_EqualFunc_api_Op_api_Op_api_Op_api_Op ⟨[(.slice s11.base s11.len s11.cap), (.slice s22.base s22.len s22.cap), eq3]⟩ w R :=
  calls_of_eq Tryd.mix Tryd.f32 [(.slice s11.base s11.len s11.cap), (.slice s22.base s22.len s22.cap), eq3] [kB] R 32 [.tmp 6] (by kernel_rfl) (by kernel_rfl) (by kernel_rfl) (by kernel_rfl) (by kernel_rfl)
    (.s .o (.s (.s .o (.c (.s .o .o) .o)) (.s (.s .o (.b (.l [(17, kI)] (.s .o (.s (.c .o .o) (.s (.b (.s .o (.s .o (.s .o (.c (.s .o .o) .o))))) .o)))))) (.s .o .o))))
    (by kernel_rfl) h
/-- slices.Equal[[]api.Patch,api.Patch] -/
def slices_Equal_api_Patch_api_Patch.E (s11 : Sl) (s22 : Sl) (R : Bool → World → Prop) (w : World) : Prop :=
 IfB (((s11.len : Int) : Int) != ((s22.len : Int) : Int))
 (R (false) w)
 (∃ (I_3 : Int → World → Prop) (m_4 : Int → World → Nat), I_3 (0) w ∧
 ∀ (t13_5 : Int), ∀ (w_6 : World), I_3 t13_5 w_6 →
 IfB (decide ((t13_5 : Int) < ((s11.len : Int) : Int)))
 (Drw w_6 fun (w_7 : World) =>
 Idx s11 t13_5 2 fun (q8 : Addr) =>
 Ld (.st [.int .i64, .int .u8]) q8 w_7 fun (x9 : (TT [.int .i64, .int .u8])) =>
 Idx s22 t13_5 2 fun (q10 : Addr) =>
 Ld (.st [.int .i64, .int .u8]) q10 w_7 fun (x11 : (TT [.int .i64, .int .u8])) =>
 IfB (!(((x9.1 : Int) == (x11.1 : Int)) && ((x9.2.1 : Int) == (x11.2.1 : Int))))
 (R (false) w_7)
 (I_3 ((i64 ((t13_5 : Int) + (1 : Int)))) w_7 ∧ m_4 ((i64 ((t13_5 : Int) + (1 : Int)))) w_7 < m_4 t13_5 w_6))
 (R (true) w_6))
theorem slices_Equal_api_Patch_api_Patch.ok (s11 : Sl) (s22 : Sl) (R : Bool → World → Prop) (w : World) (h : slices_Equal_api_Patch_api_Patch.E s11 s22 R w) : Cl Tryd.prog [kB] n_slices_Equal_api_Patch_api_Patch ⟨[(.slice s11.base s11.len s11.cap), (.slice s22.base s22.len s22.cap)]⟩ w R :=
  calls_of_eq Tryd.mix Tryd.f35 [(.slice s11.base s11.len s11.cap), (.slice s22.base s22.len s22.cap)] [kB] R 26 [.tmp 4] (by kernel_rfl) (by kernel_rfl) (by kernel_rfl) (by kernel_rfl) (by kernel_rfl)
    (.s .o (.s (.s .o (.c (.s .o .o) .o)) (.s (.s .o (.b (.l [(13, kI)] (.s .o (.s (.c .o .o) (.s (.b (.s .o (.s .o (.c (.s .o .o) .o)))) .o)))))) (.s .o .o))))
    (by kernel_rfl) h
/-- slices.Equal[[]int,int] -/
def slices_Equal_int_int.E (s11 : Sl) (s22 : Sl) (R : Bool → World → Prop) (w : World) : Prop :=
 IfB (((s11.len : Int) : Int) != ((s22.len : Int) : Int))
 (R (false) w)
 (∃ (I_3 : Int → World → Prop) (m_4 : Int → World → Nat), I_3 (0) w ∧
 ∀ (t13_5 : Int), ∀ (w_6 : World), I_3 t13_5 w_6 →
 IfB (decide ((t13_5 : Int) < ((s11.len : Int) : Int)))
 (Drw w_6 fun (w_7 : World) =>
 Idx s11 t13_5 1 fun (q8 : Addr) =>
 Ld kI q8 w_7 fun (x9 : Int) =>
 Idx s22 t13_5 1 fun (q10 : Addr) =>
 Ld kI q10 w_7 fun (x11 : Int) =>
 IfB ((x9 : Int) != (x11 : Int))
 (R (false) w_7)
 (I_3 ((i64 ((t13_5 : Int) + (1 : Int)))) w_7 ∧ m_4 ((i64 ((t13_5 : Int) + (1 : Int)))) w_7 < m_4 t13_5 w_6))
 (R (true) w_6))
theorem slices_Equal_int_int.ok (s11 : Sl) (s22 : Sl) (R : Bool → World → Prop) (w : World) (h : slices_Equal_int_int.E s11 s22 R w) : Cl Tryd.prog [kB] n_slices_Equal_int_int ⟨[(.slice s11.base s11.len s11.cap), (.slice s22.base s22.len s22.cap)]⟩ w R :=
  calls_of_eq Tryd.mix Tryd.f36 [(.slice s11.base s11.len s11.cap), (.slice s22.base s22.len s22.cap)] [kB] R 26 [.tmp 4] (by kernel_rfl) (by kernel_rfl) (by kernel_rfl) (by kernel_rfl) (by kernel_rfl)
    (.s .o (.s (.s .o (.c (.s .o .o) .o)) (.s (.s .o (.b (.l [(13, kI)] (.s .o (.s (.c .o .o) (.s (.b (.s .o (.s .o (.c (.s .o .o) .o)))) .o)))))) (.s .o .o))))
    (by kernel_rfl) h
/-- slices.IndexFunc[[]int,int] -/
def slices_IndexFunc_int_int.E (s1 : Sl) (f2 : Value) (R : Int → World → Prop) (w : World) : Prop :=
 ∃ (I_3 : Int → World → Prop) (m_4 : Int → World → Nat), I_3 (0) w ∧
 ∀ (t8_5 : Int), ∀ (w_6 : World), I_3 t8_5 w_6 →
 IfB (decide ((t8_5 : Int) < ((s1.len : Int) : Int)))
 (Idx s1 t8_5 1 fun (q7 : Addr) =>
 Ld kI q7 w_6 fun (x8 : Int) =>
 ClX Tryd.prog f2 [kB] [(.int .i64 x8)] w_6 fun (r10 : Bool) (w_9 : World) =>
 IfB r10
 (R (t8_5) w_9)
 (I_3 ((i64 ((t8_5 : Int) + (1 : Int)))) w_9 ∧ m_4 ((i64 ((t8_5 : Int) + (1 : Int)))) w_9 < m_4 t8_5 w_6))
 (R ((-1)) w_6)
theorem slices_IndexFunc_int_int.ok (s1 : Sl) (f2 : Value) (R : Int → World → Prop) (w : World) (h : slices_IndexFunc_int_int.E s1 f2 R w) : Cl Tryd.prog [kI] n_slices_IndexFunc_int_int ⟨[(.slice s1.base s1.len s1.cap), f2]⟩ w R :=
  calls_of_eq Tryd.mix Tryd.f50 [(.slice s1.base s1.len s1.cap), f2] [kI] R 19 [.tmp 4] (by kernel_rfl) (by kernel_rfl) (by kernel_rfl) (by kernel_rfl) (by kernel_rfl)
    (.s .o (.s (.s .o (.b (.l [(8, kI)] (.s .o (.s (.c .o .o) (.s (.b (.s .o (.s .o (.c (.s .o .o) .o)))) .o)))))) (.s .o .o)))
    (by kernel_rfl) h
end Go.Proofs.YtdfalolgngnelaaDoor
/- SmG -/
namespace Go.Proofs.YtdfalolgngnelaaDoor
open Go Go.Vc Go.Scr Go.Sort
set_option linter.unusedSectionVars false
section
variable {E w : World} {F : List HP}
set_option maxRecDepth 20000
def numsP (s : Scn) : List Int := [s.size, s.budget, s.room, s.drop] ++ s.cuts ++ s.spoils.map (·.1)
theorem told_nums {s : Scn} : told s ↔ ∀ z ∈ numsP s, inFar z := by
  unfold told numsP
  constructor
  · rintro ⟨a, b, c, d, e, f⟩ z hz
    simp only [List.mem_append, List.mem_cons, List.not_mem_nil, or_false, List.mem_map] at hz
    rcases hz with ((h | h | h | h) | h) | ⟨x, hx, rfl⟩
    · rw [h]; exact a
    · rw [h]; exact b
    · rw [h]; exact c
    · rw [h]; exact d
    · exact e z h
    · exact f x hx
  · intro h
    refine ⟨h _ (by simp), h _ (by simp), h _ (by simp), h _ (by simp), fun z hz => h z (by simp [hz]), fun x hx => h _ (List.mem_append_right _ (List.mem_map_of_mem hx))⟩
/-- the printed text is not too long -/
def fitP (s : Scn) : Prop := (unl (linesOf s)).length ≤ 65536 ∧ (lns (unl (linesOf s))).length ≤ 1000
theorem contains_c {s : Sl} {l : List Int} {K : Bool → World → Prop} (hs : SlT 1 s (l.map vI) w) (hl : l.length ≤ 1000000) (hK1 : (∀ z ∈ l, inFar z) → K false w) (hK0 : ¬ (∀ z ∈ l, inFar z) → K true w) :
    Cl Tryd.prog [kB] n_slices_ContainsFunc_int_int ⟨[.slice s.base s.len s.cap, .func (.func 25) ⟨[]⟩ ⟨[]⟩]⟩ w K := by
  refine slices_ContainsFunc_int_int.ok _ _ _ _ ?_
  unfold slices_ContainsFunc_int_int.E
  refine slices_IndexFunc_int_int.ok _ _ _ _ ?_
  unfold slices_IndexFunc_int_int.E
  have hlen : s.len = l.length := by have := hs.1; simpa using this.symm
  have hfar : (far : Int) = 4611686018427387904 := rfl
  refine ⟨fun i w' => ∃ k : Nat, i = (k : Int) ∧ k ≤ l.length ∧ (∀ z ∈ l.take k, inFar z) ∧ w' = w, fun i _ => l.length - i.toNat, ⟨0, rfl, by omega, by simp, rfl⟩, ?_⟩
  rintro i w' ⟨k, rfl, hk, ht, rfl⟩
  refine IfB.dm (fun hlt => ?_) (fun hge => ?_)
  · have hlt : k < l.length := by omega
    refine Idx.rd (xs := l.map vI) hs (by omega) (by omega) fun q hq hc => Ld.sc (s := .int .i64) l[k] (by rw [hc]; simp [vI]) ?_
    refine ClX.mk (by kernel_rfl) ?_
    have step : ∀ b : Bool, (b = true ↔ ¬ inFar l[k]) → IfB b (K (decide ((k : Int) ≥ 0)) w') ((∃ k' : Nat, i64 ((k : Int) + 1) = (k' : Int) ∧ k' ≤ l.length ∧ (∀ z ∈ l.take k', inFar z) ∧ w' = w') ∧ l.length - (i64 ((k : Int) + 1)).toNat < l.length - (k : Int).toNat) := by
      intro b hb
      cases b with
      | true =>
        refine IfB.t rfl ?_
        rw [decide_eq_true (by omega)]
        exact hK0 fun hh => (hb.1 rfl) (hh _ (List.getElem_mem _))
      | false =>
        refine IfB.f rfl ?_
        rw [i64_id (by omega)]
        refine ⟨⟨k + 1, by omega, by omega, fun z hz => ?_, rfl⟩, by omega⟩
        rw [List.take_add_one, List.getElem?_eq_getElem hlt, Option.toList_some] at hz
        rcases List.mem_append.1 hz with e | e
        · exact ht z e
        · rw [List.mem_singleton] at e
          rw [e]
          exact Classical.byContradiction fun hn => by have := hb.2 hn; cases this
    refine script_Print_1.ok _ _ _ ?_
    unfold script_Print_1.E
    refine IfB.dm (fun h1 => ?_) (fun h1 => ?_)
    · refine step true ⟨fun _ hh => ?_, fun _ => rfl⟩
      unfold inFar at hh; omega
    · refine step _ ?_
      rw [decide_eq_true_iff]
      unfold inFar
      constructor
      · intro h hh; omega
      · intro h
        rcases Int.lt_or_le 4611686018427387904 l[k] with q | q
        · exact q
        · exact absurd ⟨by omega, by omega⟩ h
  · have hkl : k = l.length := by omega
    rw [hkl, List.take_length] at ht
    exact hK1 ht
theorem RdS.old {ds : List Dd} {s : Scn} {sd ss sb sc : Sl} (r : RdS F ds s sd ss sb sc) (h : Hp E w F) : RdS [Old w] ds s sd ss sb sc :=
  ⟨r.d, SlT.old (h.tells r.td), fun i hi => SlT.old (h.tells (r.tb i hi)), SlT.old (h.tells r.ts), SlT.old (h.tells r.th), SlT.old (h.tells r.tc)⟩
theorem Hp.apartOld {W : World} {a b : Nat} {o o' : Obj} (h : Hp E w (Blk a o :: Old W :: F)) (hb : W.heap[b]? = some o') : a ≠ b := by
  obtain ⟨f, _, g, k, hd, _, hg, g2, k2, hd2, e2, h2, h3⟩ := h.frag
  have hg : g = Frag.one a o := hg
  rintro rfl
  rcases hd a with q | q
  · rw [hg] at q; simp [Frag.one] at q
  · rw [e2] at q
    have : g2 a = some o' := by rw [h2 a, hb]
    simp [Frag.add, this] at q
set_option maxHeartbeats 4000000 in
theorem print_c {s : Scn} {ds : List Dd} {sd ss sb sc : Sl} {K : ByteArray → Int → World → Prop} (h : Hp E w F) (hgl : Tells F Gl) (r : RdS F ds s sd ss sb sc) (hg : Scr.Good s) (hs : small s) (hK : ∀ w', Hp E w' F → K (strOf (prT s)) (prE s) w') :
    Cl Tryd.prog [kStr, kI] n_script_Print ⟨[.agg ⟨encs ksS (tS s sd ss sb sc)⟩]⟩ w K := by
  refine script_Print.ok _ _ _ ?_
  unfold script_Print.E
  obtain ⟨l1, l2, l3, l4, l5⟩ := r.len h
  have hs' := hs
  obtain ⟨n1, n2, n3, n4⟩ := hs'
  refine Nw.mk h fun b3 w h => ?_
  refine Ld.xb (x := s.size) h rfl (Ld.xb (x := s.budget) h rfl (Ld.xb (x := s.room) h rfl (Ld.xb (x := s.drop) h rfl ?_)))
  refine Nw.mk h fun b9 w h => ?_
  refine Ld.xb (x := sc) h rfl ?_
  have h := h.ownNew (n := 4) (sz := 1) rfl
  refine run_append (ys := s.cuts.map vI) (n := sc.len) ty_intl (by decide) (.inl ⟨3, by kernel_rfl⟩) h (.inl ⟨_, _, _, rfl, rfl, h.tells r.tc.cons.cons⟩) (by simp [l4]) (by intro y hy; obtain ⟨z, _, rfl⟩ := List.mem_map.1 hy; rfl) (by show (2 * (4 + sc.len) + 1024) * 8 ≤ 2 ^ 48; omega) (by show 4 + sc.len < 2 ^ 62; omega) fun s12 w h hl12 => ?_
  refine Ld.xb (x := ss) h rfl ?_
  refine ⟨fun s16 i w => ∃ k : Nat, i = (k : Int) ∧ k ≤ s.spoils.length ∧ Hp E w (OwnS 1 s16 (([s.size, s.budget, s.room, s.drop] ++ s.cuts ++ (s.spoils.take k).map (·.1)).map vI) :: Blk b3 (.cells ⟨encs ksS (tS s sd ss sb sc)⟩ tySn (0, 0)) :: F), fun _ i _ => s.spoils.length - i.toNat,
    ⟨0, rfl, by omega, by rw [List.take_zero, List.map_nil, List.append_nil, List.map_append]; exact h⟩, ?_⟩
  rintro s16 i w ⟨k, rfl, hk, h⟩
  refine IfB.dm (fun hlt => ?_) (fun hge => ?_)
  · have hlt : k < s.spoils.length := by omega
    refine Idx.el gP_len (by decide) (h.tells r.ts.cons.cons) rfl hlt fun q hq => ?_
    refine Ld.st (ks := [.int .i64, .int .u8]) (s.spoils[k].1, (s.spoils[k].2 : Int), ()) (fun j hj => by rw [hq j hj]; rfl) ?_
    refine Nw.mk h fun b22 w h => ?_
    refine StC.xw h (by rfl) (by rfl) (fun w h => ?_)
    refine Ld.xb (x := s.spoils[k].1) h rfl ?_
    have hcl : ([s.size, s.budget, s.room, s.drop] ++ s.cuts ++ (s.spoils.take k).map (·.1)).length = 4 + s.cuts.length + k := by
      rw [List.length_append, List.length_append, List.length_map, List.length_take, Nat.min_eq_left hk]; rfl
    refine app1m (f := vI) (x := s.spoils[k].1) ty_intl (fun _ => rfl) h.p1 (by rw [hcl]; omega) (by rw [hcl]; omega) fun s' w h _ => ?_
    rw [i64_id (by omega)]
    refine ⟨⟨k + 1, by omega, by omega, ?_⟩, by (first | omega | (dsimp only; omega))⟩
    have h := h.no 1
    rw [List.append_assoc] at h
    rw [List.take_add_one, List.getElem?_eq_getElem hlt, Option.toList_some, List.map_append (f := fun x : Int × Nat => x.1)]
    exact h
  have hkl : k = s.spoils.length := by omega
  rw [hkl, List.take_length] at h
  clear hge hk hkl
  have h : Hp E w (OwnS 1 s16 ((numsP s).map vI) :: Blk b3 (.cells ⟨encs ksS (tS s sd ss sb sc)⟩ tySn (0, 0)) :: F) := h
  have hnl : (numsP s).length ≤ 1000000 := by
    unfold numsP
    rw [List.length_append, List.length_append, List.length_map]
    show 4 + _ + _ ≤ _
    omega
  refine contains_c (h.tells Tells.own) hnl (fun hin => ?_) (fun hnin => ?_)
  · have ht : told s := told_nums.2 hin
    refine IfB.f rfl ?_
    have h := h.drop
    have P1 := fun k => pl_pre hs ht (pl1_pre s k)
    have P2 := fun k => pl_pre hs ht (pl2_pre s k)
    have P3 := pl_pre hs ht (pl3_pre s)
    have P4 := pl_pre hs ht (pl4_pre s)
    have P5 := pl_pre hs ht (l := pl5 s) ⟨[], by simp⟩
    obtain ⟨t1, t2, t3, t4, t5, t6⟩ := id ht
    have hfar : (far : Int) = 4611686018427387904 := rfl
    have D : ∀ {z : Int}, inFar z → -9223372036854775808 ≤ z ∧ z ≤ 9223372036854775807 := fun hz => by have := hz.1; have := hz.2; omega
    refine Bd.new h fun b w B => ?_
    have rr := r.cons (A := Blk b3 (.cells ⟨encs ksS (tS s sd ss sb sc)⟩ tySn (0, 0)))
    have gg := hgl.cons (A := Blk b3 (.cells ⟨encs ksS (tS s sd ss sb sc)⟩ tySn (0, 0)))
    have one : ∀ (n : List Nat) (z : Int), n.length ≤ 6 → inFar z → (rowL n [z]).length ≤ 310 := fun n z hn hz => row1_len hz hn
    refine Join.of (fun r => ∀ w, Bd E b (Blk b3 (.cells ⟨encs ksS (tS s sd ss sb sc)⟩ tySn (0, 0)) :: F) (unl (pl0 s)) w → r w) (fun w B => ?_) fun r' hr => ?_
    · refine Ld.xb (x := sd) B.hp rfl ?_
      refine ⟨fun i w => ∃ k : Nat, i = (k : Int) ∧ k ≤ s.deeds.length ∧ Bd E b (Blk b3 (.cells ⟨encs ksS (tS s sd ss sb sc)⟩ tySn (0, 0)) :: F) (unl (pl1 s k)) w, fun i _ => s.deeds.length - i.toNat,
        ⟨0, rfl, by omega, by unfold pl1; rw [List.take_zero, List.map_nil, List.append_nil]; exact B⟩, ?_⟩
      rintro i w ⟨k, rfl, hk, B⟩
      refine IfB.dm (fun hlt => ?_) (fun hge => ?_)
      · have hlt : k < ds.length := by omega
        have hlt' : k < s.deeds.length := by omega
        have hd := r.dk hlt hlt'
        have hp : pl1 s (k + 1) = pl1 s k ++ [deedL s.deeds[k]] := by
          unfold pl1
          rw [List.take_add_one, List.getElem?_eq_getElem hlt', Option.toList_some, List.map_append, ← List.append_assoc]; rfl
        have hpk := P1 k
        have hdb := hg.deeds s.deeds[k] (List.getElem_mem _)
        have hdl := sum_mem (List.getElem_mem hlt')
        have hxl := hexW_len s.deeds[k].2
        refine Join.of (fun r => ∀ w, Bd E b (Blk b3 (.cells ⟨encs ksS (tS s sd ss sb sc)⟩ tySn (0, 0)) :: F) (unl (pl1 s k) ++ (deedL s.deeds[k] ++ [10])) w → r w) (fun w B => ?_) fun r' hr => ?_
        · rw [i64_id (by omega)]
          refine ⟨⟨k + 1, by omega, by omega, by rw [hp, unl_snoc]; exact B⟩, by (first | omega | (dsimp only; omega))⟩
        refine Idx.el gD_len (by decide) (B.hp.tells rr.td) rfl hlt fun q hq => ?_
        refine Ld.st (ks := [.bool, .sl]) (ds[k].1.1, ds[k].2, ()) (fun j hj => by rw [hq j hj]; rfl) ?_
        have h := Hp.start w
        have ro := rr.old B.hp
        refine Nw.mk h fun b79 w' h => ?_
        refine StC.xw h (by rfl) (by rfl) (fun w' h => ?_)
        refine Ld.xb (x := ds[k].1.1) h rfl ?_
        unfold deedL at hr
        by_cases hf : s.deeds[k].1 = true
        · refine IfB.t (by rw [hd]; exact hf) ?_
          rw [show (ByteArray.mk #[102, 108, 117, 115, 104, 10]) = strOf (sFlush ++ [10]) from rfl]
          rw [if_pos hf] at hr
          exact (B.later h.drop.below).write (by simp only [List.length_append, List.length_cons, List.length_nil, sFlush]; omega) fun _ _ w B _ => hr w B
        · refine IfB.f (by rw [hd]; simpa using hf) ?_
          rw [if_neg hf] at hr
          refine Ld.xb (x := ds[k].2) h rfl ?_
          have tb := ro.tb k hlt
          rw [hd] at tb
          refine hex_c h tb.cons hdb (by omega) fun w' h => ?_
          rw [show (ByteArray.mk #[119, 114, 105, 116, 101, 32]) = strOf (sWrite ++ [32]) from rfl, show (ByteArray.mk #[10]) = strOf [10] from rfl]
          simp only [strOf_app, strOf_size]
          refine ⟨by simp only [List.length_append, List.length_cons, List.length_nil, sWrite]; omega, by simp only [List.length_append, List.length_cons, List.length_nil, sWrite]; omega, ?_⟩
          refine (B.later h.drop.below).write (by simp only [List.length_append, List.length_cons, List.length_nil, sWrite]; omega) fun _ _ w B _ => hr w ?_
          have e : sWrite ++ [32] ++ hexW s.deeds[k].2 ++ [10] = sWrite ++ sps [hexW s.deeds[k].2] ++ [10] := by simp [sps]
          rw [e] at B
          exact B
      · have hkl : k = s.deeds.length := by omega
        subst hkl
        refine Ld.xb (x := ss) B.hp rfl ?_
        refine ⟨fun i w => ∃ k : Nat, i = (k : Int) ∧ k ≤ s.spoils.length ∧ Bd E b (Blk b3 (.cells ⟨encs ksS (tS s sd ss sb sc)⟩ tySn (0, 0)) :: F) (unl (pl2 s k)) w, fun i _ => s.spoils.length - i.toNat,
          ⟨0, rfl, by omega, by unfold pl2; rw [List.take_zero, List.map_nil, List.append_nil]; exact B⟩, ?_⟩
        rintro i w ⟨k, rfl, hk, B⟩
        refine IfB.dm (fun hlt => ?_) (fun hge => ?_)
        · have hlt : k < s.spoils.length := by omega
          have hp : pl2 s (k + 1) = pl2 s k ++ [spoilL s.spoils[k]] := by
            unfold pl2
            rw [List.take_add_one, List.getElem?_eq_getElem hlt, Option.toList_some, List.map_append, ← List.append_assoc]; rfl
          have hpk := P2 k
          have hz := t6 s.spoils[k] (List.getElem_mem _)
          have hc := hg.spoils s.spoils[k] (List.getElem_mem _)
          have hzl := decI_len hz
          have hxl := hexW_len [s.spoils[k].2]
          simp only [List.length_cons, List.length_nil] at hxl
          refine Idx.el gP_len (by decide) (B.hp.tells rr.ts) rfl hlt fun q hq => ?_
          refine Ld.st (ks := [.int .i64, .int .u8]) (s.spoils[k].1, (s.spoils[k].2 : Int), ()) (fun j hj => by rw [hq j hj]; rfl) ?_
          have h := Hp.start w
          have g0 : ∀ G, Tells (Old w :: G) Gl := fun G => Gl.old (B.hp.tells gg)
          refine Nw.mk h fun b100 w' h => ?_
          refine StC.xw h (by rfl) (by rfl) (fun w' h => ?_)
          have hend : sSpoil ++ [32] ++ decI s.spoils[k].1 ++ [32] ++ hexW [s.spoils[k].2] ++ [10] = spoilL s.spoils[k] ++ [10] := by
            unfold spoilL
            simp [sps]
          refine Join.of (fun r => ∀ w, Bd E b (Blk b3 (.cells ⟨encs ksS (tS s sd ss sb sc)⟩ tySn (0, 0)) :: F) (unl (pl2 s k) ++ (sSpoil ++ [32] ++ decI s.spoils[k].1 ++ [32] ++ hexW [s.spoils[k].2] ++ [10])) w → r w) (fun w B => ?_) fun r' hr => ?_
          · rw [i64_id (by omega)]
            refine ⟨⟨k + 1, by omega, by omega, by rw [hp, unl_snoc, ← hend]; exact B⟩, by (first | omega | (dsimp only; omega))⟩
          have hbb : b100 ≠ b := by
            rcases B.bd with ⟨_, v, hv, _⟩ | ⟨_, v, hv, _⟩ <;> exact Hp.apartOld h hv
          have hkeep : ∀ {w1 w2 : World}, HoldB b100 ⟨[.int .i64 s.spoils[k].1, .int .u8 (s.spoils[k].2 : Int)]⟩ 47 (0, 0) w1 → Lib.OthersKept 5 (some b) w1 w2 → HoldB b100 ⟨[.int .i64 s.spoils[k].1, .int .u8 (s.spoils[k].2 : Int)]⟩ 47 (0, 0) w2 := fun hh ho =>
            ho b100 _ hh (by intro e; injection e with e; exact hbb e) (by intro c fz e; injection e with _ e _; exact absurd e (by decide))
          have h := h.drew (n := w'.drawn + 1)
          refine ⟨fun w => HoldB b100 ⟨[.int .i64 s.spoils[k].1, .int .u8 (s.spoils[k].2 : Int)]⟩ 47 (0, 0) w, h.hb, ?_⟩
          refine LdS.xb (x := s.spoils[k].1) (fun w hw => hw) rfl ?_
          refine LdS.xb (x := (s.spoils[k].2 : Int)) (fun w hw => hw) rfl ?_
          rw [show (ByteArray.mk #[115, 112, 111, 105, 108, 32]) = strOf (sSpoil ++ [32]) from rfl, show (ByteArray.mk #[32]) = strOf [32] from rfl, show (ByteArray.mk #[10]) = strOf [10] from rfl]
          constructor
          · refine itoa_c h (Tells.cons (g0 _)) (D hz).1 (D hz).2 fun w' h => ?_
            simp only [strOf_app, strOf_size]
            refine ⟨h.hb, by simp only [List.length_append, List.length_cons, List.length_nil, sSpoil]; omega, by simp only [List.length_append, List.length_cons, List.length_nil, sSpoil]; omega, ?_⟩
            refine Nw.mk h fun b70 w' h => ⟨h.hb, ?_⟩
            have ht70 : ∀ G, Tells (Blk b70 (.cells ⟨[.int .u8 (s.spoils[k].2 : Int)]⟩ 5 (0, 0)) :: G) (SlT 1 ⟨some ⟨b70, 0, none⟩, 1, 1⟩ ([s.spoils[k].2].map vB)) := fun G => Tells.blk (xs := [vB s.spoils[k].2]) rfl (by simp)
            refine hex_c (s := ⟨some ⟨b70, 0, none⟩, 1, 1⟩) (b := [s.spoils[k].2]) h (ht70 _) (fun c hm => by rw [List.mem_singleton] at hm; rw [hm]; exact hc) (by simp) (fun w' h => ?_)
            simp only [strOf_app, strOf_size]
            refine ⟨h.hb, by simp only [List.length_append, List.length_cons, List.length_nil, sSpoil]; omega, by simp only [List.length_append, List.length_cons, List.length_nil, sSpoil]; omega, ?_⟩
            refine (B.later h.drop.drop.below).write (by simp only [List.length_append, List.length_cons, List.length_nil, sSpoil]; omega) fun _ _ w B ho => ⟨hkeep h.hb ho, hr w B⟩
          · refine Nw.mk h fun b70 w' h => ⟨h.hb, ?_⟩
            refine itoa_c h (Tells.cons (Tells.cons (g0 _))) (D hz).1 (D hz).2 fun w' h => ?_
            simp only [strOf_app, strOf_size]
            refine ⟨h.hb, by simp only [List.length_append, List.length_cons, List.length_nil, sSpoil]; omega, by simp only [List.length_append, List.length_cons, List.length_nil, sSpoil]; omega, ?_⟩
            have ht70 : ∀ G, Tells (Blk b70 (.cells ⟨[.int .u8 (s.spoils[k].2 : Int)]⟩ 5 (0, 0)) :: G) (SlT 1 ⟨some ⟨b70, 0, none⟩, 1, 1⟩ ([s.spoils[k].2].map vB)) := fun G => Tells.blk (xs := [vB s.spoils[k].2]) rfl (by simp)
            refine hex_c (s := ⟨some ⟨b70, 0, none⟩, 1, 1⟩) (b := [s.spoils[k].2]) h (ht70 _) (fun c hm => by rw [List.mem_singleton] at hm; rw [hm]; exact hc) (by simp) (fun w' h => ?_)
            simp only [strOf_app, strOf_size]
            refine ⟨h.hb, by simp only [List.length_append, List.length_cons, List.length_nil, sSpoil]; omega, by simp only [List.length_append, List.length_cons, List.length_nil, sSpoil]; omega, ?_⟩
            refine (B.later h.drop.drop.below).write (by simp only [List.length_append, List.length_cons, List.length_nil, sSpoil]; omega) fun _ _ w B ho => ⟨hkeep h.hb ho, hr w B⟩
        · have hkl : k = s.spoils.length := by omega
          subst hkl
          have rowW : ∀ {w : World} {l : List Nat} (n : List Nat) (z : Int) {K : World → Prop}, Bd E b (Blk b3 (.cells ⟨encs ksS (tS s sd ss sb sc)⟩ tySn (0, 0)) :: F) l w → inFar z → n.length ≤ 6 → l.length ≤ 100000 → (∀ w', Bd E b (Blk b3 (.cells ⟨encs ksS (tS s sd ss sb sc)⟩ tySn (0, 0)) :: F) (l ++ (rowL n [z] ++ [10])) w' → K w') →
              Nw 3 ⟨[.int .i64 z]⟩ w fun b128 w => Cl Tryd.prog [kStr] n_script_row ⟨[.string (strOf n), .slice (some ⟨b128, 0, none⟩) 1 1]⟩ w fun r130 w => Cl Tryd.prog [kI, kV] n_strings_Builder_WriteString ⟨[.pointer (some ⟨b, 0, none⟩), .string r130]⟩ w fun _ _ w => K w := by
            intro w l n z K B hz hn hl hK
            have h := Hp.start w
            have g0 : ∀ G, Tells (Old w :: G) Gl := fun G => Gl.old (B.hp.tells gg)
            refine Nw.mk h fun b128 w' h => ?_
            refine row_c (s := ⟨some ⟨b128, 0, none⟩, 1, 1⟩) (l := [z]) h (Tells.cons (g0 _)) (Tells.blk (xs := [vI z]) rfl (by simp)) (by simp) (by omega) (by intro y hy; rw [List.mem_singleton] at hy; rw [hy]; exact hz) fun w' h => ?_
            have := one n z hn hz
            refine (B.later h.drop.below).write (by simp only [List.length_append, List.length_cons, List.length_nil]; omega) fun _ _ w B ho => hK w B
          refine Ld.xb (x := s.drop) B.hp rfl ?_
          have p2 := P2 s.spoils.length
          rw [show (ByteArray.mk #[100, 114, 111, 112]) = strOf sDrop from rfl]
          refine rowW sDrop s.drop B t4 (by decide) (by omega) fun w B => ?_
          rw [← unl_snoc] at B
          have B : Bd E b (Blk b3 (.cells ⟨encs ksS (tS s sd ss sb sc)⟩ tySn (0, 0)) :: F) (unl (pl3 s)) w := B
          refine Join.of (fun r => ∀ w, Bd E b (Blk b3 (.cells ⟨encs ksS (tS s sd ss sb sc)⟩ tySn (0, 0)) :: F) (unl (pl4 s)) w → r w) (fun w B => ?_) fun r' hr => ?_
          · refine Ld.xb (x := s.room) B.hp rfl ?_
            rw [show (ByteArray.mk #[114, 111, 111, 109]) = strOf sRoom from rfl]
            refine rowW sRoom s.room B t3 (by decide) (by omega) fun w B => ?_
            rw [← unl_snoc] at B
            have B : Bd E b (Blk b3 (.cells ⟨encs ksS (tS s sd ss sb sc)⟩ tySn (0, 0)) :: F) (unl (pl5 s)) w := B
            refine Join.of (fun r => ∀ w, Bd E b (Blk b3 (.cells ⟨encs ksS (tS s sd ss sb sc)⟩ tySn (0, 0)) :: F) (unl (linesOf s)) w → (unl (linesOf s)).length ≤ 100000 → r w) (fun w B hle => ?_) fun r' hr => ?_
            · refine Join.of (fun r => ∀ w, Hp E w F → printS s = none → r w) (fun w h e => ?_) fun r' hbad => ?_
              · have := hK w h
                unfold prT prE at this
                rw [e] at this
                exact this
              · refine B.string fun w h => ?_
                with_reducible refine Join.of (fun r => ∀ (ok : Bool) (w : World), (ok = true ↔ fitP s) → Hp E w F → r ok w) ?_ ?_
                · intro ok w hok h
                  cases ok with
                  | true =>
                    refine IfB.t rfl ?_
                    have e : printS s = some (unl (linesOf s)) := if_pos ⟨ht, hok.1 rfl⟩
                    have := hK w h
                    unfold prT prE at this
                    rw [e] at this
                    exact this
                  | false =>
                    refine IfB.f rfl ?_
                    exact hbad w h (if_neg fun hh => by have := hok.2 hh.2; cases this)
                · intro r' hr
                  rw [strOf_size]
                  with_reducible refine IfB.dm (fun h1 => ?_) (fun h1 => ?_)
                  · refine many_c h.drop hgl (linesOf_bt hg) (by omega) fun w h => ?_
                    refine hr _ w ?_ h
                    rw [decide_eq_true_iff]
                    unfold fitP
                    constructor
                    · intro h2; exact ⟨by omega, by omega⟩
                    · intro h2; have := h2.2; omega
                  · refine hr _ w ?_ h.drop
                    unfold fitP
                    constructor
                    · intro e; cases e
                    · intro e; exact absurd e.1 (by omega)
            · refine Ld.xb (x := sc) B.hp rfl ?_
              by_cases hc0 : s.cuts = []
              · have : sc.len = 0 := by rw [l4, hc0]; rfl
                refine IfB.df (by omega) ?_
                have ea : linesOf s = pl5 s := by rw [pl_all, if_pos hc0, List.append_nil]
                rw [ea] at hr
                exact hr w B (by omega)
              · have : sc.len ≠ 0 := by rw [l4]; intro e; exact hc0 (List.length_eq_zero_iff.1 e)
                refine IfB.dt (by omega) ?_
                refine Ld.xb (x := sc) B.hp rfl ?_
                rw [show (ByteArray.mk #[99, 117, 116, 115]) = strOf sCuts from rfl]
                have h := Hp.start w
                refine row_c h (Gl.old (B.hp.tells gg)) (rr.old B.hp).tc (by omega) (by decide) t5 fun w' h => ?_
                have hsl := sps_len (l := s.cuts.map decI) (B := 20) fun x hx => by
                  obtain ⟨z, hz, rfl⟩ := List.mem_map.1 hx
                  exact decI_len (t5 z hz)
                rw [List.length_map] at hsl
                have hrl : (rowL sCuts s.cuts).length ≤ 2000 := by
                  unfold rowL
                  rw [List.length_append]
                  have : sCuts.length = 4 := rfl
                  omega
                refine (B.later h.below).write (by simp only [List.length_append, List.length_cons, List.length_nil]; omega) fun _ _ w B ho => ?_
                have ea : unl (linesOf s) = unl (pl5 s) ++ (rowL sCuts s.cuts ++ [10]) := by rw [pl_all, if_neg hc0, unl_snoc]
                rw [ea] at hr
                exact hr w B (by simp only [List.length_append, List.length_cons, List.length_nil]; omega)
          · refine Ld.xb (x := sb) B.hp rfl ?_
            by_cases hb0 : s.behind = []
            · have : sb.len = 0 := by rw [l3, hb0]; rfl
              refine IfB.df (by omega) ?_
              refine hr w ?_
              have e : pl4 s = pl3 s := by unfold pl4; rw [if_pos hb0, List.append_nil]
              rw [e]; exact B
            · have : sb.len ≠ 0 := by rw [l3]; intro e; exact hb0 (List.length_eq_zero_iff.1 e)
              refine IfB.dt (by omega) ?_
              refine Ld.xb (x := sb) B.hp rfl ?_
              have h := Hp.start w
              have hxl := hexW_len s.behind
              refine hex_c h (rr.old B.hp).th hg.behind (by omega) fun w' h => ?_
              rw [show (ByteArray.mk #[98, 101, 104, 105, 110, 100, 32]) = strOf (sBehind ++ [32]) from rfl, show (ByteArray.mk #[10]) = strOf [10] from rfl]
              simp only [strOf_app, strOf_size]
              refine ⟨by simp only [List.length_append, List.length_cons, List.length_nil, sBehind]; omega, by simp only [List.length_append, List.length_cons, List.length_nil, sBehind]; omega, ?_⟩
              refine (B.later h.below).write (by simp only [List.length_append, List.length_cons, List.length_nil, sBehind]; omega) fun _ _ w B ho => hr w ?_
              have e : unl (pl4 s) = unl (pl3 s) ++ (sBehind ++ [32] ++ hexW s.behind ++ [10]) := by
                unfold pl4
                rw [if_neg hb0, unl_snoc]
                simp [sps]
              rw [e]; exact B
    · have B : Bd E b (Blk b3 (.cells ⟨encs ksS (tS s sd ss sb sc)⟩ tySn (0, 0)) :: F) [] { w with drawn := w.drawn + 1 } := B.later ⟨rfl, rfl, rfl, Nat.le_refl _, fun _ _ => rfl⟩
      refine ⟨fun w => HoldB b3 ⟨encs ksS (tS s sd ss sb sc)⟩ tySn (0, 0) w, Hp.hb (b := b3) B.hp, ?_⟩
      have hS := Hp.hb (b := b3) B.hp
      refine LdS.xb (x := s.size) (fun w hw => hw) rfl ?_
      refine LdS.xb (x := s.budget) (fun w hw => hw) rfl ?_
      rw [show (ByteArray.mk #[115, 105, 122, 101]) = strOf sSize from rfl, show (ByteArray.mk #[98, 117, 100, 103, 101, 116]) = strOf sBudget from rfl]
      generalize ({ w with drawn := w.drawn + 1 } : World) = w0 at B hS ⊢
      have h := Hp.start w0
      have g0 : ∀ G, Tells (Old w0 :: G) Gl := fun G => Gl.old (B.hp.tells gg)
      have k0 : ∀ G, Tells (Old w0 :: G) (HoldB b3 ⟨encs ksS (tS s sd ss sb sc)⟩ tySn (0, 0)) := fun G => Tells.oldB hS
      have o1 := one sSize s.size (by decide) t1
      have o2 := one sBudget s.budget (by decide) t2
      have fin : ∀ w, Bd E b (Blk b3 (.cells ⟨encs ksS (tS s sd ss sb sc)⟩ tySn (0, 0)) :: F) ([] ++ (rowL sSize [s.size] ++ [10] ++ (rowL sBudget [s.budget] ++ [10]))) w → HoldB b3 ⟨encs ksS (tS s sd ss sb sc)⟩ tySn (0, 0) w ∧ r' w := fun w B => ⟨Hp.hb (b := b3) B.hp, hr w (by
        have e : unl (pl0 s) = [] ++ (rowL sSize [s.size] ++ [10] ++ (rowL sBudget [s.budget] ++ [10])) := by simp [pl0, unl]
        rw [e]; exact B)⟩
      have tb : ∀ (b : Nat) (z : Int) G, Tells (Blk b (.cells ⟨[.int .i64 z]⟩ 3 (0, 0)) :: G) (SlT 1 ⟨some ⟨b, 0, none⟩, 1, 1⟩ ([z].map vI)) := fun b z G => Tells.blk (xs := [vI z]) rfl (by simp)
      have zz : ∀ {z : Int}, inFar z → ∀ y ∈ [z], inFar y := fun hz y hy => by rw [List.mem_singleton] at hy; rw [hy]; exact hz
      have hsz : (((rowL sSize [s.size] ++ [10]).length : Nat) : Int) + ((rowL sBudget [s.budget] ++ [10]).length : Nat) ≤ 9223372036854775807 := by simp only [List.length_append, List.length_cons, List.length_nil]; omega
      have hwr : ([] : List Nat).length + (rowL sSize [s.size] ++ [10] ++ (rowL sBudget [s.budget] ++ [10])).length ≤ 1000000000 := by simp only [List.length_append, List.length_cons, List.length_nil]; omega
      refine ⟨?_, ?_⟩
      · refine Nw.mk h fun b39 w h => ⟨h.tells (Tells.cons (k0 _)), ?_, ?_⟩
        · refine row_c (s := ⟨some ⟨b39, 0, none⟩, 1, 1⟩) h (Tells.cons (g0 _)) (tb _ _ _) (by simp) (by decide) (zz t1) fun w h => ⟨h.tells (Tells.cons (k0 _)), ?_⟩
          refine Nw.mk h fun b43 w h => ⟨h.tells (Tells.cons (Tells.cons (k0 _))), ?_⟩
          refine row_c (s := ⟨some ⟨b43, 0, none⟩, 1, 1⟩) h (Tells.cons (Tells.cons (g0 _))) (tb _ _ _) (by simp) (by decide) (zz t2) fun w h => ⟨h.tells (Tells.cons (Tells.cons (k0 _))), ?_⟩
          simp only [strOf_app, strOf_size]
          exact ⟨hsz, (B.later h.drop.drop.below).write hwr fun _ _ w B _ => fin w B⟩
        · refine Nw.mk h fun b50 w h => ⟨h.tells (Tells.cons (Tells.cons (k0 _))), ?_⟩
          refine row_c (s := ⟨some ⟨b39, 0, none⟩, 1, 1⟩) h (Tells.cons (Tells.cons (g0 _))) (Tells.cons (tb _ _ _)) (by simp) (by decide) (zz t1) fun w h => ⟨h.tells (Tells.cons (Tells.cons (k0 _))), ?_⟩
          refine row_c (s := ⟨some ⟨b50, 0, none⟩, 1, 1⟩) h (Tells.cons (Tells.cons (g0 _))) (tb _ _ _) (by simp) (by decide) (zz t2) fun w h => ⟨h.tells (Tells.cons (Tells.cons (k0 _))), ?_⟩
          simp only [strOf_app, strOf_size]
          exact ⟨hsz, (B.later h.drop.drop.below).write hwr fun _ _ w B _ => fin w B⟩
      · refine Nw.mk h fun b59 w h => ⟨h.tells (Tells.cons (k0 _)), ?_⟩
        refine Nw.mk h fun b61 w h => ⟨h.tells (Tells.cons (Tells.cons (k0 _))), ?_⟩
        refine row_c (s := ⟨some ⟨b61, 0, none⟩, 1, 1⟩) h (Tells.cons (Tells.cons (g0 _))) (tb _ _ _) (by simp) (by decide) (zz t1) fun w h => ⟨h.tells (Tells.cons (Tells.cons (k0 _))), ?_⟩
        refine row_c (s := ⟨some ⟨b59, 0, none⟩, 1, 1⟩) h (Tells.cons (Tells.cons (g0 _))) (Tells.cons (tb _ _ _)) (by simp) (by decide) (zz t2) fun w h => ⟨h.tells (Tells.cons (Tells.cons (k0 _))), ?_⟩
        simp only [strOf_app, strOf_size]
        exact ⟨hsz, (B.later h.drop.drop.below).write hwr fun _ _ w B _ => fin w B⟩
  · refine IfB.t rfl ?_
    have e : printS s = none := if_neg fun hh => hnin (told_nums.1 hh.1)
    have := hK w h.drop.drop
    unfold prT prE at this
    rw [e] at this
    exact this
end
end Go.Proofs.YtdfalolgngnelaaDoor
/- Fbytes -/
namespace Go.Proofs.YtdfalolgngnelaaDoor
open Go Go.Vc
set_option maxRecDepth 100000 in
/-- bytes.Equal -/
def bytes_Equal.E (a1 : Sl) (b2 : Sl) (R : Bool → World → Prop) (w : World) : Prop :=
 Run Tryd.prog (convert 24 9 (.slice a1.base a1.len a1.cap)) kStr w fun (s4 : ByteArray) (w_3 : World) =>
 Run Tryd.prog (convert 24 9 (.slice b2.base b2.len b2.cap)) kStr w_3 fun (s6 : ByteArray) (w_5 : World) =>
 R (((s4).toList == (s6).toList)) w_5
set_option maxRecDepth 100000 in
theorem bytes_Equal.ok (a1 : Sl) (b2 : Sl) (R : Bool → World → Prop) (w : World) (h : bytes_Equal.E a1 b2 R w) : Cl Tryd.prog [kB] n_bytes_Equal ⟨[(.slice a1.base a1.len a1.cap), (.slice b2.base b2.len b2.cap)]⟩ w R :=
  calls_of_eq Tryd.mix Tryd.f34 [(.slice a1.base a1.len a1.cap), (.slice b2.base b2.len b2.cap)] [kB] R 10 [.tmp 4] (by kernel_rfl) (by kernel_rfl) (by kernel_rfl) (by kernel_rfl) (by kernel_rfl)
    (.s .o (.s .o .o))
    (by kernel_rfl) h
end Go.Proofs.YtdfalolgngnelaaDoor
/- SmH -/
namespace Go.Proofs.YtdfalolgngnelaaDoor
open Go Go.Vc Go.Scr Go.Sort
set_option linter.unusedSectionVars false
section
variable {E w : World} {F : List HP}
set_option maxRecDepth 20000
theorem beq_c {s s2 : Sl} {a b : List Nat} {K : Bool → World → Prop} (ha : SlT 1 s (a.map vB) w) (hb : SlT 1 s2 (b.map vB) w) (ba : Bt a) (bb : Bt b) (hK : K (a == b) w) :
    Cl Tryd.prog [kB] n_bytes_Equal ⟨[.slice s.base s.len s.cap, .slice s2.base s2.len s2.cap]⟩ w K := by
  refine bytes_Equal.ok _ _ _ _ ?_
  unfold bytes_Equal.E
  refine str_c ha (str_c hb ?_)
  rw [strOf_eq ba bb]
  exact hK
theorem eqOp_c {x y : Dd} {K : Bool → World → Prop} (h : Hp E w F) (hx : Tells F (SlT 1 x.2 (x.1.2.map vB))) (hy : Tells F (SlT 1 y.2 (y.1.2.map vB))) (bx : Bt x.1.2) (bY : Bt y.1.2) (hK : ∀ w', Hp E w' F → K (decide (x.1 = y.1)) w') :
    Cl Tryd.prog [kB] n_script_Equal_1 ⟨[.agg ⟨[.bool x.1.1, .slice x.2.base x.2.len x.2.cap]⟩, .agg ⟨[.bool y.1.1, .slice y.2.base y.2.len y.2.cap]⟩]⟩ w K := by
  refine script_Equal_1.ok (x.1.1, x.2, ()) (y.1.1, y.2, ()) _ _ ?_
  unfold script_Equal_1.E
  refine Nw.mk h fun b4 w h => ?_
  refine Nw.mk h fun b6 w h => ?_
  refine Ld.xb (x := x.1.1) h rfl (Ld.xb (x := y.1.1) h rfl ?_)
  by_cases hf : x.1.1 = y.1.1
  · refine IfB.t (by rw [hf]; simp) ?_
    refine Ld.xb (x := x.2) h rfl (Ld.xb (x := y.2) h rfl ?_)
    refine beq_c (h.tells hx.cons.cons) (h.tells hy.cons.cons) bx bY ?_
    have e : decide (x.1 = y.1) = (x.1.2 == y.1.2) := by
      rw [Bool.eq_iff_iff, decide_eq_true_iff, beq_iff_eq]
      exact ⟨fun e => by rw [e], fun e => Prod.ext hf e⟩
    have := hK w h.drop.drop
    rwa [e] at this
  · refine IfB.f (by simpa using hf) ?_
    have := hK w h.drop.drop
    rwa [decide_eq_false (fun e => hf (by rw [e]))] at this
theorem eqDeeds_c {ds es : List Dd} {sd td : Sl} {K : Bool → World → Prop} (h : Hp E w F) (ha : Tells F (SlT 2 sd (ds.flatMap gD))) (hb : Tells F (SlT 2 td (es.flatMap gD))) (hl : ds.length ≤ 10000000)
    (ta : ∀ i (h : i < ds.length), Tells F (SlT 1 ds[i].2 (ds[i].1.2.map vB))) (tb : ∀ i (h : i < es.length), Tells F (SlT 1 es[i].2 (es[i].1.2.map vB))) (ba : ∀ d ∈ ds, Bt d.1.2) (bb : ∀ d ∈ es, Bt d.1.2) (hK : ∀ w', Hp E w' F → K (decide (ds.map (·.1) = es.map (·.1))) w') :
    Cl Tryd.prog [kB] n_slices_EqualFunc_api_Op_api_Op_api_Op_api_Op ⟨[.slice sd.base sd.len sd.cap, .slice td.base td.len td.cap, .func (.func 33) ⟨[]⟩ ⟨[]⟩]⟩ w K := by
  refine slices_EqualFunc_api_Op_api_Op_api_Op_api_Op.ok _ _ _ _ _ ?_
  unfold slices_EqualFunc_api_Op_api_Op_api_Op_api_Op.E
  have la := (h.tells ha).1
  have lb := (h.tells hb).1
  rw [fm_len gD_len] at la lb
  have no : ∀ (w : World), Hp E w F → ¬ ds.map (·.1) = es.map (·.1) → K false w := fun w h hn => by have := hK w h; rwa [decide_eq_false hn] at this
  refine IfB.nm (fun hne => no w h fun e => ?_) (fun heq => ?_)
  · have := congrArg List.length e
    simp only [List.length_map] at this
    omega
  refine ⟨fun i w => ∃ k : Nat, i = (k : Int) ∧ k ≤ ds.length ∧ (ds.take k).map (·.1) = (es.take k).map (·.1) ∧ Hp E w F, fun i _ => ds.length - i.toNat, ⟨0, rfl, by omega, by simp, h⟩, ?_⟩
  rintro i w ⟨k, rfl, hk, hd, h⟩
  refine IfB.dm (fun hlt => ?_) (fun hge => ?_)
  · have hlta : k < ds.length := by omega
    have hltb : k < es.length := by omega
    refine Idx.el gD_len (by decide) (h.tells ha) rfl hlta fun q hq => ?_
    refine Ld.st (ks := [.bool, .sl]) (ds[k].1.1, ds[k].2, ()) (fun j hj => by rw [hq j hj]; rfl) ?_
    refine Nw.mk h fun b11 w h => ?_
    refine StC.xw h (by rfl) (by rfl) (fun w h => ?_)
    refine Idx.el gD_len (by decide) (h.tells hb.cons) rfl hltb fun q hq => ?_
    refine Ld.st (ks := [.bool, .sl]) (es[k].1.1, es[k].2, ()) (fun j hj => by rw [hq j hj]; rfl) ?_
    refine Nw.mk h fun b16 w h => ?_
    refine StC.xw h (by rfl) (by rfl) (fun w h => ?_)
    refine Ld.xt (x := (ds[k].1.1, ds[k].2, ())) h rfl ?_
    refine Ld.xt (x := (es[k].1.1, es[k].2, ())) h rfl ?_
    refine ClX.mk (by kernel_rfl) ?_
    refine eqOp_c (x := ds[k]) (y := es[k]) h (ta k hlta).cons.cons (tb k hltb).cons.cons (ba _ (List.getElem_mem _)) (bb _ (List.getElem_mem _)) fun w h => ?_
    by_cases e : ds[k].1 = es[k].1
    · rw [decide_eq_true e]
      refine IfB.f rfl ?_
      rw [i64_id (by omega)]
      refine ⟨⟨k + 1, by omega, by omega, ?_, h.drop.drop⟩, by (first | omega | (dsimp only; omega))⟩
      rw [List.take_add_one, List.take_add_one, List.getElem?_eq_getElem hlta, List.getElem?_eq_getElem hltb, Option.toList_some, Option.toList_some, List.map_append, List.map_append, hd]
      simp [e]
    · rw [decide_eq_false e]
      refine IfB.t rfl ?_
      refine no w h.drop.drop fun e2 => e ?_
      have := congrArg (fun l => l[k]?) e2
      simp only [List.getElem?_map, List.getElem?_eq_getElem hlta, List.getElem?_eq_getElem hltb, Option.map_some, Option.some.injEq] at this
      exact this
  · rw [List.take_of_length_le (by omega), List.take_of_length_le (by omega)] at hd
    have := hK w h
    rwa [decide_eq_true hd] at this
theorem eqPats_c {a b : List (Int × Nat)} {ss ts : Sl} {K : Bool → World → Prop} (h : Hp E w F) (ha : Tells F (SlT 2 ss (a.flatMap gP))) (hb : Tells F (SlT 2 ts (b.flatMap gP))) (hl : a.length ≤ 10000000) (hK : ∀ w', Hp E w' F → K (decide (a = b)) w') :
    Cl Tryd.prog [kB] n_slices_Equal_api_Patch_api_Patch ⟨[.slice ss.base ss.len ss.cap, .slice ts.base ts.len ts.cap]⟩ w K := by
  refine slices_Equal_api_Patch_api_Patch.ok _ _ _ _ ?_
  unfold slices_Equal_api_Patch_api_Patch.E
  have la := (h.tells ha).1
  have lb := (h.tells hb).1
  rw [fm_len gP_len] at la lb
  have no : ∀ (w : World), Hp E w F → ¬ a = b → K false w := fun w h hn => by have := hK w h; rwa [decide_eq_false hn] at this
  refine IfB.nm (fun hne => no w h fun e => by subst e; omega) (fun heq => ?_)
  refine ⟨fun i w => ∃ k : Nat, i = (k : Int) ∧ k ≤ a.length ∧ a.take k = b.take k ∧ Hp E w F, fun i _ => a.length - i.toNat, ⟨0, rfl, by omega, by simp, h⟩, ?_⟩
  rintro i w ⟨k, rfl, hk, hd, h⟩
  refine IfB.dm (fun hlt => ?_) (fun hge => ?_)
  · have hlta : k < a.length := by omega
    have hltb : k < b.length := by omega
    refine Drw.mk h fun w h => ?_
    refine Idx.el gP_len (by decide) (h.tells ha) rfl hlta fun q hq => ?_
    refine Ld.st (ks := [.int .i64, .int .u8]) (a[k].1, (a[k].2 : Int), ()) (fun j hj => by rw [hq j hj]; rfl) ?_
    refine Idx.el gP_len (by decide) (h.tells hb) rfl hltb fun q hq => ?_
    refine Ld.st (ks := [.int .i64, .int .u8]) (b[k].1, (b[k].2 : Int), ()) (fun j hj => by rw [hq j hj]; rfl) ?_
    refine IfB.mk (fun hne => ?_) (fun he => ?_)
    · refine no w h fun e => ?_
      subst e
      simp at hne
    · rw [i64_id (by omega)]
      refine ⟨⟨k + 1, by omega, by omega, ?_, h⟩, by (first | omega | (dsimp only; omega))⟩
      have e : a[k] = b[k] := by
        simp only [Bool.not_eq_false', Bool.and_eq_true, beq_iff_eq] at he
        exact Prod.ext he.1 (Int.ofNat_inj.1 he.2)
      rw [List.take_add_one, List.take_add_one, List.getElem?_eq_getElem hlta, List.getElem?_eq_getElem hltb, hd, e]
  · rw [List.take_of_length_le (by omega), List.take_of_length_le (by omega)] at hd
    have := hK w h
    rwa [decide_eq_true hd] at this
theorem eqInts_c {a b : List Int} {ss ts : Sl} {K : Bool → World → Prop} (h : Hp E w F) (ha : Tells F (SlT 1 ss (a.map vI))) (hb : Tells F (SlT 1 ts (b.map vI))) (hl : a.length ≤ 10000000) (hK : ∀ w', Hp E w' F → K (decide (a = b)) w') :
    Cl Tryd.prog [kB] n_slices_Equal_int_int ⟨[.slice ss.base ss.len ss.cap, .slice ts.base ts.len ts.cap]⟩ w K := by
  refine slices_Equal_int_int.ok _ _ _ _ ?_
  unfold slices_Equal_int_int.E
  have la := (h.tells ha).1
  have lb := (h.tells hb).1
  simp only [List.length_map, Nat.mul_one] at la lb
  have no : ∀ (w : World), Hp E w F → ¬ a = b → K false w := fun w h hn => by have := hK w h; rwa [decide_eq_false hn] at this
  refine IfB.nm (fun hne => no w h fun e => by subst e; omega) (fun heq => ?_)
  refine ⟨fun i w => ∃ k : Nat, i = (k : Int) ∧ k ≤ a.length ∧ a.take k = b.take k ∧ Hp E w F, fun i _ => a.length - i.toNat, ⟨0, rfl, by omega, by simp, h⟩, ?_⟩
  rintro i w ⟨k, rfl, hk, hd, h⟩
  refine IfB.dm (fun hlt => ?_) (fun hge => ?_)
  · have hlta : k < a.length := by omega
    have hltb : k < b.length := by omega
    refine Drw.mk h fun w h => ?_
    refine Idx.rd (xs := a.map vI) (h.tells ha) (by omega) (by omega) fun q hq hc => Ld.sc (s := .int .i64) a[k] (by rw [hc]; simp [vI]) ?_
    refine Idx.rd (xs := b.map vI) (h.tells hb) (by omega) (by omega) fun q hq hc => Ld.sc (s := .int .i64) b[k] (by rw [hc]; simp [vI]) ?_
    refine IfB.nm (fun hne => ?_) (fun he => ?_)
    · exact no w h fun e => by subst e; exact hne rfl
    · rw [i64_id (by omega)]
      refine ⟨⟨k + 1, by omega, by omega, ?_, h⟩, by (first | omega | (dsimp only; omega))⟩
      rw [List.take_add_one, List.take_add_one, List.getElem?_eq_getElem hlta, List.getElem?_eq_getElem hltb, hd, he]
  · rw [List.take_of_length_le (by omega), List.take_of_length_le (by omega)] at hd
    have := hK w h
    rwa [decide_eq_true hd] at this
theorem equal_c {a b : Scn} {ds es : List Dd} {sd ss sb sc td ts tb tc : Sl} {K : Bool → World → Prop} (h : Hp E w F) (ra : RdS F ds a sd ss sb sc) (rb : RdS F es b td ts tb tc) (ga : Scr.Good a) (gb : Scr.Good b) (hz : sz a ≤ 10000000) (hK : ∀ w', Hp E w' F → K (decide (a = b)) w') :
    Cl Tryd.prog [kB] n_script_Equal ⟨[.agg ⟨encs ksS (tS a sd ss sb sc)⟩, .agg ⟨encs ksS (tS b td ts tb tc)⟩]⟩ w K := by
  refine script_Equal.ok _ _ _ _ ?_
  unfold script_Equal.E
  obtain ⟨l1, l2, l3, l4, l5⟩ := ra.len h
  unfold sz at hz
  have no : ∀ (w : World), Hp E w F → ¬ a = b → K false w := fun w h hn => by have := hK w h; rwa [decide_eq_false hn] at this
  refine Nw.mk h fun b4 w h => ?_
  refine Nw.mk h fun b6 w h => ?_
  refine Ld.xb (x := sd) h rfl (Ld.xb (x := td) h rfl ?_)
  have gd : ∀ {s : Scn} {ds : List Dd}, Scr.Good s → ds.map (·.1) = s.deeds → ∀ d ∈ ds, Bt d.1.2 := fun hg hd d hm => hg.deeds d.1 (by rw [← hd]; exact List.mem_map_of_mem hm)
  refine eqDeeds_c h ra.td.cons.cons rb.td.cons.cons (by omega) (fun i hi => (ra.tb i hi).cons.cons) (fun i hi => (rb.tb i hi).cons.cons) (gd ga ra.d) (gd gb rb.d) fun w h => ?_
  rw [ra.d, rb.d]
  refine Join.of (fun r => ∀ (l : Bool) (w : World), (l = true ↔ a.spoils = b.spoils ∧ a.behind = b.behind ∧ a.cuts = b.cuts) →
    Hp E w (Blk b6 (.cells ⟨encs ksS (tS b td ts tb tc)⟩ tySn (0, 0)) :: Blk b4 (.cells ⟨encs ksS (tS a sd ss sb sc)⟩ tySn (0, 0)) :: F) → r l w) (fun l w hl h => ?_) fun r' hr => ?_
  · by_cases h1 : a.deeds = b.deeds
    · rw [decide_eq_true h1]
      refine IfB.t rfl ?_
      cases l with
      | false =>
        refine IfB.f rfl ?_
        refine no w h.drop.drop fun e => ?_
        have := hl.2 ⟨by rw [e], by rw [e], by rw [e]⟩
        cases this
      | true =>
        refine IfB.t rfl ?_
        obtain ⟨h2, h3, h4⟩ := hl.1 rfl
        refine Ld.xb (x := a.size) h rfl (Ld.xb (x := b.size) h rfl ?_)
        refine IfB.em (fun e1 => ?_) (fun hn => no w h.drop.drop fun e => hn (by rw [e]))
        refine Ld.xb (x := a.budget) h rfl (Ld.xb (x := b.budget) h rfl ?_)
        refine IfB.em (fun e2 => ?_) (fun hn => no w h.drop.drop fun e => hn (by rw [e]))
        refine Ld.xb (x := a.drop) h rfl (Ld.xb (x := b.drop) h rfl ?_)
        refine IfB.em (fun e3 => ?_) (fun hn => no w h.drop.drop fun e => hn (by rw [e]))
        refine Ld.xb (x := a.room) h rfl (Ld.xb (x := b.room) h rfl ?_)
        have := hK w h.drop.drop
        have e : decide (a = b) = (a.room == b.room) := by
          rw [Bool.eq_iff_iff, decide_eq_true_iff, beq_iff_eq]
          exact ⟨fun e => by rw [e], fun e => scn_ext e1 e2 h1 h2 e3 h3 e h4⟩
        rwa [e] at this
    · rw [decide_eq_false h1]
      refine IfB.f rfl ?_
      exact no w h.drop.drop fun e => h1 (by rw [e])
  · refine Ld.xb (x := ss) h rfl (Ld.xb (x := ts) h rfl ?_)
    refine eqPats_c h ra.ts.cons.cons rb.ts.cons.cons (by omega) fun w h => ?_
    by_cases h1 : a.spoils = b.spoils
    · rw [decide_eq_true h1]
      refine IfB.t rfl ?_
      refine Ld.xb (x := sb) h rfl (Ld.xb (x := tb) h rfl ?_)
      refine beq_c (h.tells ra.th.cons.cons) (h.tells rb.th.cons.cons) ga.behind gb.behind ?_
      by_cases h2 : a.behind = b.behind
      · refine IfB.t (by rw [h2]; simp) ?_
        refine Ld.xb (x := sc) h rfl (Ld.xb (x := tc) h rfl ?_)
        refine eqInts_c h ra.tc.cons.cons rb.tc.cons.cons (by omega) fun w h => ?_
        refine hr _ w ?_ h
        rw [decide_eq_true_iff]
        exact ⟨fun h3 => ⟨h1, h2, h3⟩, fun h => h.2.2⟩
      · refine IfB.f (by simpa using h2) ?_
        refine hr false w ⟨fun e => (by cases e), fun e => absurd e.2.1 h2⟩ h
    · rw [decide_eq_false h1]
      refine IfB.f rfl ?_
      exact hr false w ⟨fun e => (by cases e), fun e => absurd e.1 h1⟩ h
end
end Go.Proofs.YtdfalolgngnelaaDoor
/- Flaw30 -/
namespace Go.Proofs.YtdfalolgngnelaaDoor
open Go Go.Vc
set_option maxRecDepth 100000 in
/-- winepresslaw30.ScriptMatches -/
def law30_ScriptMatches.E (x1 : ByteArray) (y2 : ByteArray) (s3 : (TT [.int .i64, .int .i64, .sl, .sl, .int .i64, .sl, .int .i64, .sl])) (o4 : (TT [.int .i64, .int .i64, .sl, .sl, .int .i64, .sl, .int .i64, .sl])) (b5 : Sl) (R : Bool → World → Prop) (w : World) : Prop :=
 Nw 27 ⟨[(.int .i64 s3.1), (.int .i64 s3.2.1), (.slice s3.2.2.1.base s3.2.2.1.len s3.2.2.1.cap), (.slice s3.2.2.2.1.base s3.2.2.2.1.len s3.2.2.2.1.cap), (.int .i64 s3.2.2.2.2.1), (.slice s3.2.2.2.2.2.1.base s3.2.2.2.2.2.1.len s3.2.2.2.2.2.1.cap), (.int .i64 s3.2.2.2.2.2.2.1), (.slice s3.2.2.2.2.2.2.2.1.base s3.2.2.2.2.2.2.2.1.len s3.2.2.2.2.2.2.2.1.cap)]⟩ w fun (b7 : Nat) (w_6 : World) =>
 Nw 27 ⟨[(.int .i64 o4.1), (.int .i64 o4.2.1), (.slice o4.2.2.1.base o4.2.2.1.len o4.2.2.1.cap), (.slice o4.2.2.2.1.base o4.2.2.2.1.len o4.2.2.2.1.cap), (.int .i64 o4.2.2.2.2.1), (.slice o4.2.2.2.2.2.1.base o4.2.2.2.2.2.1.len o4.2.2.2.2.2.1.cap), (.int .i64 o4.2.2.2.2.2.2.1), (.slice o4.2.2.2.2.2.2.2.1.base o4.2.2.2.2.2.2.2.1.len o4.2.2.2.2.2.2.2.1.cap)]⟩ w_6 fun (b9 : Nat) (w_8 : World) =>
 Join (fun (w_22 : World) =>
 Nw 9 ⟨[(.string x1), (.string y2)]⟩ w_22 fun (b24 : Nat) (w_23 : World) =>
 Cl Tryd.prog [(.st [.int .i64, .int .i64, .sl, .sl, .int .i64, .sl, .int .i64, .sl]), kI, kI] n_script_Parse ⟨[(.slice (⟨some ⟨b24, 0, none⟩, 2, 2⟩ : Sl).base (⟨some ⟨b24, 0, none⟩, 2, 2⟩ : Sl).len (⟨some ⟨b24, 0, none⟩, 2, 2⟩ : Sl).cap)]⟩ w_23 fun (r26 : (TT [.int .i64, .int .i64, .sl, .sl, .int .i64, .sl, .int .i64, .sl])) (r27 : Int) (r28 : Int) (w_25 : World) =>
 Nw 27 ⟨[(.int .i64 0), (.int .i64 0), (.slice none 0 0), (.slice none 0 0), (.int .i64 0), (.slice none 0 0), (.int .i64 0), (.slice none 0 0)]⟩ w_25 fun (b30 : Nat) (w_29 : World) =>
 StC (⟨b30, 0, none⟩ : Addr) [(.int .i64 r26.1), (.int .i64 r26.2.1), (.slice r26.2.2.1.base r26.2.2.1.len r26.2.2.1.cap), (.slice r26.2.2.2.1.base r26.2.2.2.1.len r26.2.2.2.1.cap), (.int .i64 r26.2.2.2.2.1), (.slice r26.2.2.2.2.2.1.base r26.2.2.2.2.2.1.len r26.2.2.2.2.2.1.cap), (.int .i64 r26.2.2.2.2.2.2.1), (.slice r26.2.2.2.2.2.2.2.1.base r26.2.2.2.2.2.2.2.1.len r26.2.2.2.2.2.2.2.1.cap)] 0 w_29 fun (w_31 : World) =>
 ((x1).size : Int) + ((y2).size : Int) ≤ 9223372036854775807 ∧
 Cl Tryd.prog [(.st [.int .i64, .int .i64, .sl, .sl, .int .i64, .sl, .int .i64, .sl]), kI, kI] n_ref30_Parse ⟨[(.string (x1 ++ y2))]⟩ w_31 fun (r33 : (TT [.int .i64, .int .i64, .sl, .sl, .int .i64, .sl, .int .i64, .sl])) (r34 : Int) (r35 : Int) (w_32 : World) =>
 Nw 27 ⟨[(.int .i64 0), (.int .i64 0), (.slice none 0 0), (.slice none 0 0), (.int .i64 0), (.slice none 0 0), (.int .i64 0), (.slice none 0 0)]⟩ w_32 fun (b37 : Nat) (w_36 : World) =>
 StC (⟨b37, 0, none⟩ : Addr) [(.int .i64 r33.1), (.int .i64 r33.2.1), (.slice r33.2.2.1.base r33.2.2.1.len r33.2.2.1.cap), (.slice r33.2.2.2.1.base r33.2.2.2.1.len r33.2.2.2.1.cap), (.int .i64 r33.2.2.2.2.1), (.slice r33.2.2.2.2.2.1.base r33.2.2.2.2.2.1.len r33.2.2.2.2.2.1.cap), (.int .i64 r33.2.2.2.2.2.2.1), (.slice r33.2.2.2.2.2.2.2.1.base r33.2.2.2.2.2.2.2.1.len r33.2.2.2.2.2.2.2.1.cap)] 0 w_36 fun (w_38 : World) =>
 Join (fun (w_51 : World) =>
 Ld (.st [.int .i64, .int .i64, .sl, .sl, .int .i64, .sl, .int .i64, .sl]) (⟨b7, 0, none⟩ : Addr) w_51 fun (x52 : (TT [.int .i64, .int .i64, .sl, .sl, .int .i64, .sl, .int .i64, .sl])) =>
 Cl Tryd.prog [kStr, kI] n_script_Print ⟨[(.agg ⟨[(.int .i64 x52.1), (.int .i64 x52.2.1), (.slice x52.2.2.1.base x52.2.2.1.len x52.2.2.1.cap), (.slice x52.2.2.2.1.base x52.2.2.2.1.len x52.2.2.2.1.cap), (.int .i64 x52.2.2.2.2.1), (.slice x52.2.2.2.2.2.1.base x52.2.2.2.2.2.1.len x52.2.2.2.2.2.1.cap), (.int .i64 x52.2.2.2.2.2.2.1), (.slice x52.2.2.2.2.2.2.2.1.base x52.2.2.2.2.2.2.2.1.len x52.2.2.2.2.2.2.2.1.cap)]⟩)]⟩ w_51 fun (r54 : ByteArray) (r55 : Int) (w_53 : World) =>
 Ld (.st [.int .i64, .int .i64, .sl, .sl, .int .i64, .sl, .int .i64, .sl]) (⟨b7, 0, none⟩ : Addr) w_53 fun (x56 : (TT [.int .i64, .int .i64, .sl, .sl, .int .i64, .sl, .int .i64, .sl])) =>
 Cl Tryd.prog [kStr, kI] n_ref30_Print ⟨[(.agg ⟨[(.int .i64 x56.1), (.int .i64 x56.2.1), (.slice x56.2.2.1.base x56.2.2.1.len x56.2.2.1.cap), (.slice x56.2.2.2.1.base x56.2.2.2.1.len x56.2.2.2.1.cap), (.int .i64 x56.2.2.2.2.1), (.slice x56.2.2.2.2.2.1.base x56.2.2.2.2.2.1.len x56.2.2.2.2.2.1.cap), (.int .i64 x56.2.2.2.2.2.2.1), (.slice x56.2.2.2.2.2.2.2.1.base x56.2.2.2.2.2.2.2.1.len x56.2.2.2.2.2.2.2.1.cap)]⟩)]⟩ w_53 fun (r58 : ByteArray) (r59 : Int) (w_57 : World) =>
 Join (fun (t10_73 : Bool) (w_74 : World) =>
 R (t10_73) w_74) fun (K_60 : Bool → World → Prop) =>
 Held w_57 fun (S61 : World → Prop) (w_62 : World) =>
 IfB ((r54).toList == (r58).toList)
 (IfB ((r55 : Int) == (r59 : Int))
 (LdS (.st [.int .i64, .int .i64, .sl, .sl, .int .i64, .sl, .int .i64, .sl]) (⟨b7, 0, none⟩ : Addr) S61 fun (x63 : (TT [.int .i64, .int .i64, .sl, .sl, .int .i64, .sl, .int .i64, .sl])) =>
 LdS (.st [.int .i64, .int .i64, .sl, .sl, .int .i64, .sl, .int .i64, .sl]) (⟨b9, 0, none⟩ : Addr) S61 fun (x64 : (TT [.int .i64, .int .i64, .sl, .sl, .int .i64, .sl, .int .i64, .sl])) =>
 LdS (.st [.int .i64, .int .i64, .sl, .sl, .int .i64, .sl, .int .i64, .sl]) (⟨b7, 0, none⟩ : Addr) S61 fun (x65 : (TT [.int .i64, .int .i64, .sl, .sl, .int .i64, .sl, .int .i64, .sl])) =>
 LdS (.st [.int .i64, .int .i64, .sl, .sl, .int .i64, .sl, .int .i64, .sl]) (⟨b9, 0, none⟩ : Addr) S61 fun (x66 : (TT [.int .i64, .int .i64, .sl, .sl, .int .i64, .sl, .int .i64, .sl])) =>
 Cl Tryd.prog [kB] n_script_Equal ⟨[(.agg ⟨[(.int .i64 x63.1), (.int .i64 x63.2.1), (.slice x63.2.2.1.base x63.2.2.1.len x63.2.2.1.cap), (.slice x63.2.2.2.1.base x63.2.2.2.1.len x63.2.2.2.1.cap), (.int .i64 x63.2.2.2.2.1), (.slice x63.2.2.2.2.2.1.base x63.2.2.2.2.2.1.len x63.2.2.2.2.2.1.cap), (.int .i64 x63.2.2.2.2.2.2.1), (.slice x63.2.2.2.2.2.2.2.1.base x63.2.2.2.2.2.2.2.1.len x63.2.2.2.2.2.2.2.1.cap)]⟩), (.agg ⟨[(.int .i64 x64.1), (.int .i64 x64.2.1), (.slice x64.2.2.1.base x64.2.2.1.len x64.2.2.1.cap), (.slice x64.2.2.2.1.base x64.2.2.2.1.len x64.2.2.2.1.cap), (.int .i64 x64.2.2.2.2.1), (.slice x64.2.2.2.2.2.1.base x64.2.2.2.2.2.1.len x64.2.2.2.2.2.1.cap), (.int .i64 x64.2.2.2.2.2.2.1), (.slice x64.2.2.2.2.2.2.2.1.base x64.2.2.2.2.2.2.2.1.len x64.2.2.2.2.2.2.2.1.cap)]⟩)]⟩ w_62 fun (r68 : Bool) (w_67 : World) =>
 S61 w_67 ∧
 Cl Tryd.prog [kB] n_ref30_Equal ⟨[(.agg ⟨[(.int .i64 x65.1), (.int .i64 x65.2.1), (.slice x65.2.2.1.base x65.2.2.1.len x65.2.2.1.cap), (.slice x65.2.2.2.1.base x65.2.2.2.1.len x65.2.2.2.1.cap), (.int .i64 x65.2.2.2.2.1), (.slice x65.2.2.2.2.2.1.base x65.2.2.2.2.2.1.len x65.2.2.2.2.2.1.cap), (.int .i64 x65.2.2.2.2.2.2.1), (.slice x65.2.2.2.2.2.2.2.1.base x65.2.2.2.2.2.2.2.1.len x65.2.2.2.2.2.2.2.1.cap)]⟩), (.agg ⟨[(.int .i64 x66.1), (.int .i64 x66.2.1), (.slice x66.2.2.1.base x66.2.2.1.len x66.2.2.1.cap), (.slice x66.2.2.2.1.base x66.2.2.2.1.len x66.2.2.2.1.cap), (.int .i64 x66.2.2.2.2.1), (.slice x66.2.2.2.2.2.1.base x66.2.2.2.2.2.1.len x66.2.2.2.2.2.1.cap), (.int .i64 x66.2.2.2.2.2.2.1), (.slice x66.2.2.2.2.2.2.2.1.base x66.2.2.2.2.2.2.2.1.len x66.2.2.2.2.2.2.2.1.cap)]⟩)]⟩ w_67 fun (r70 : Bool) (w_69 : World) =>
 S61 w_69 ∧
 IfB (r68 == r70)
 (Cl Tryd.prog [kB] n_law30_wakes ⟨[]⟩ w_69 fun (r72 : Bool) (w_71 : World) =>
 S61 w_71 ∧
 K_60 (r72) w_71)
 (K_60 (false) w_69))
 (K_60 (false) w_62))
 (K_60 (false) w_62)) fun (K_39 : World → Prop) =>
 Join (fun (t79_49 : Bool) (w_50 : World) =>
 IfB t79_49
 (R (false) w_50)
 (K_39  w_50)) fun (K_40 : Bool → World → Prop) =>
 Ld (.st [.int .i64, .int .i64, .sl, .sl, .int .i64, .sl, .int .i64, .sl]) (⟨b30, 0, none⟩ : Addr) w_38 fun (x41 : (TT [.int .i64, .int .i64, .sl, .sl, .int .i64, .sl, .int .i64, .sl])) =>
 Ld (.st [.int .i64, .int .i64, .sl, .sl, .int .i64, .sl, .int .i64, .sl]) (⟨b37, 0, none⟩ : Addr) w_38 fun (x42 : (TT [.int .i64, .int .i64, .sl, .sl, .int .i64, .sl, .int .i64, .sl])) =>
 Cl Tryd.prog [kB] n_ref30_Equal ⟨[(.agg ⟨[(.int .i64 x41.1), (.int .i64 x41.2.1), (.slice x41.2.2.1.base x41.2.2.1.len x41.2.2.1.cap), (.slice x41.2.2.2.1.base x41.2.2.2.1.len x41.2.2.2.1.cap), (.int .i64 x41.2.2.2.2.1), (.slice x41.2.2.2.2.2.1.base x41.2.2.2.2.2.1.len x41.2.2.2.2.2.1.cap), (.int .i64 x41.2.2.2.2.2.2.1), (.slice x41.2.2.2.2.2.2.2.1.base x41.2.2.2.2.2.2.2.1.len x41.2.2.2.2.2.2.2.1.cap)]⟩), (.agg ⟨[(.int .i64 x42.1), (.int .i64 x42.2.1), (.slice x42.2.2.1.base x42.2.2.1.len x42.2.2.1.cap), (.slice x42.2.2.2.1.base x42.2.2.2.1.len x42.2.2.2.1.cap), (.int .i64 x42.2.2.2.2.1), (.slice x42.2.2.2.2.2.1.base x42.2.2.2.2.2.1.len x42.2.2.2.2.2.1.cap), (.int .i64 x42.2.2.2.2.2.2.1), (.slice x42.2.2.2.2.2.2.2.1.base x42.2.2.2.2.2.2.2.1.len x42.2.2.2.2.2.2.2.1.cap)]⟩)]⟩ w_38 fun (r44 : Bool) (w_43 : World) =>
 IfB (!r44)
 (K_40 (true) w_43)
 (IfB ((r27 : Int) != (r34 : Int))
 (K_40 (true) w_43)
 (IfB ((r28 : Int) != (r35 : Int))
 (K_40 (true) w_43)
 (Cl Tryd.prog [kStr] n_script_Hex ⟨[(.slice b5.base b5.len b5.cap)]⟩ w_43 fun (r46 : ByteArray) (w_45 : World) =>
 Cl Tryd.prog [kStr] n_ref30_Hex ⟨[(.slice b5.base b5.len b5.cap)]⟩ w_45 fun (r48 : ByteArray) (w_47 : World) =>
 K_40 ((!((r46).toList == (r48).toList))) w_47)))) fun (K_10 : World → Prop) =>
 Join (fun (t41_18 : Bool) (w_19 : World) =>
 IfB t41_18
 (Cl Tryd.prog [kB] n_law30_wakes ⟨[]⟩ w_19 fun (r21 : Bool) (w_20 : World) =>
 R (r21) w_20)
 (K_10  w_19)) fun (K_11 : Bool → World → Prop) =>
 IfB (decide ((((x1).size : Int) : Int) > (10000 : Int)))
 (K_11 (true) w_8)
 (IfB (decide ((((y2).size : Int) : Int) > (10000 : Int)))
 (K_11 (true) w_8)
 (Ld (.st [.int .i64, .int .i64, .sl, .sl, .int .i64, .sl, .int .i64, .sl]) (⟨b7, 0, none⟩ : Addr) w_8 fun (x12 : (TT [.int .i64, .int .i64, .sl, .sl, .int .i64, .sl, .int .i64, .sl])) =>
 Cl Tryd.prog [kB] n_ref30_Great ⟨[(.agg ⟨[(.int .i64 x12.1), (.int .i64 x12.2.1), (.slice x12.2.2.1.base x12.2.2.1.len x12.2.2.1.cap), (.slice x12.2.2.2.1.base x12.2.2.2.1.len x12.2.2.2.1.cap), (.int .i64 x12.2.2.2.2.1), (.slice x12.2.2.2.2.2.1.base x12.2.2.2.2.2.1.len x12.2.2.2.2.2.1.cap), (.int .i64 x12.2.2.2.2.2.2.1), (.slice x12.2.2.2.2.2.2.2.1.base x12.2.2.2.2.2.2.2.1.len x12.2.2.2.2.2.2.2.1.cap)]⟩)]⟩ w_8 fun (r14 : Bool) (w_13 : World) =>
 IfB r14
 (K_11 (true) w_13)
 (Ld (.st [.int .i64, .int .i64, .sl, .sl, .int .i64, .sl, .int .i64, .sl]) (⟨b9, 0, none⟩ : Addr) w_13 fun (x15 : (TT [.int .i64, .int .i64, .sl, .sl, .int .i64, .sl, .int .i64, .sl])) =>
 Cl Tryd.prog [kB] n_ref30_Great ⟨[(.agg ⟨[(.int .i64 x15.1), (.int .i64 x15.2.1), (.slice x15.2.2.1.base x15.2.2.1.len x15.2.2.1.cap), (.slice x15.2.2.2.1.base x15.2.2.2.1.len x15.2.2.2.1.cap), (.int .i64 x15.2.2.2.2.1), (.slice x15.2.2.2.2.2.1.base x15.2.2.2.2.2.1.len x15.2.2.2.2.2.1.cap), (.int .i64 x15.2.2.2.2.2.2.1), (.slice x15.2.2.2.2.2.2.2.1.base x15.2.2.2.2.2.2.2.1.len x15.2.2.2.2.2.2.2.1.cap)]⟩)]⟩ w_13 fun (r17 : Bool) (w_16 : World) =>
 IfB r17
 (K_11 (true) w_16)
 (K_11 ((decide (((b5.len : Int) : Int) > (200 : Int)))) w_16))))
set_option maxRecDepth 100000 in
theorem law30_ScriptMatches.ok (x1 : ByteArray) (y2 : ByteArray) (s3 : (TT [.int .i64, .int .i64, .sl, .sl, .int .i64, .sl, .int .i64, .sl])) (o4 : (TT [.int .i64, .int .i64, .sl, .sl, .int .i64, .sl, .int .i64, .sl])) (b5 : Sl) (R : Bool → World → Prop) (w : World) (h : law30_ScriptMatches.E x1 y2 s3 o4 b5 R w) : Cl Tryd.prog [kB] n_law30_ScriptMatches ⟨[(.string x1), (.string y2), (.agg ⟨[(.int .i64 s3.1), (.int .i64 s3.2.1), (.slice s3.2.2.1.base s3.2.2.1.len s3.2.2.1.cap), (.slice s3.2.2.2.1.base s3.2.2.2.1.len s3.2.2.2.1.cap), (.int .i64 s3.2.2.2.2.1), (.slice s3.2.2.2.2.2.1.base s3.2.2.2.2.2.1.len s3.2.2.2.2.2.1.cap), (.int .i64 s3.2.2.2.2.2.2.1), (.slice s3.2.2.2.2.2.2.2.1.base s3.2.2.2.2.2.2.2.1.len s3.2.2.2.2.2.2.2.1.cap)]⟩), (.agg ⟨[(.int .i64 o4.1), (.int .i64 o4.2.1), (.slice o4.2.2.1.base o4.2.2.1.len o4.2.2.1.cap), (.slice o4.2.2.2.1.base o4.2.2.2.1.len o4.2.2.2.1.cap), (.int .i64 o4.2.2.2.2.1), (.slice o4.2.2.2.2.2.1.base o4.2.2.2.2.2.1.len o4.2.2.2.2.2.1.cap), (.int .i64 o4.2.2.2.2.2.2.1), (.slice o4.2.2.2.2.2.2.2.1.base o4.2.2.2.2.2.2.2.1.len o4.2.2.2.2.2.2.2.1.cap)]⟩), (.slice b5.base b5.len b5.cap)]⟩ w R :=
  calls_of_eq Tryd.mix Tryd.f3 [(.string x1), (.string y2), (.agg ⟨[(.int .i64 s3.1), (.int .i64 s3.2.1), (.slice s3.2.2.1.base s3.2.2.1.len s3.2.2.1.cap), (.slice s3.2.2.2.1.base s3.2.2.2.1.len s3.2.2.2.1.cap), (.int .i64 s3.2.2.2.2.1), (.slice s3.2.2.2.2.2.1.base s3.2.2.2.2.2.1.len s3.2.2.2.2.2.1.cap), (.int .i64 s3.2.2.2.2.2.2.1), (.slice s3.2.2.2.2.2.2.2.1.base s3.2.2.2.2.2.2.2.1.len s3.2.2.2.2.2.2.2.1.cap)]⟩), (.agg ⟨[(.int .i64 o4.1), (.int .i64 o4.2.1), (.slice o4.2.2.1.base o4.2.2.1.len o4.2.2.1.cap), (.slice o4.2.2.2.1.base o4.2.2.2.1.len o4.2.2.2.1.cap), (.int .i64 o4.2.2.2.2.1), (.slice o4.2.2.2.2.2.1.base o4.2.2.2.2.2.1.len o4.2.2.2.2.2.1.cap), (.int .i64 o4.2.2.2.2.2.2.1), (.slice o4.2.2.2.2.2.2.2.1.base o4.2.2.2.2.2.2.2.1.len o4.2.2.2.2.2.2.2.1.cap)]⟩), (.slice b5.base b5.len b5.cap)] [kB] R 110 [.tmp 10] (by kernel_rfl) (by kernel_rfl) (by kernel_rfl) (by kernel_rfl) (by kernel_rfl)
    (.s .o (.j [] (.j [(41, kB)] .o (.c (.s .o .o) .o)) (.s .o (.s .o (.j [] (.j [(79, kB)] .o (.c (.s .o .o) .o)) (.s .o (.s .o (.s .o .o))))))))
    (by kernel_rfl) h
set_option maxRecDepth 100000 in
/-- winepresslaw30.ScriptBack -/
def law30_ScriptBack.E (s1 : (TT [.int .i64, .int .i64, .sl, .sl, .int .i64, .sl, .int .i64, .sl])) (at_2 : Int) (R : Bool → World → Prop) (w : World) : Prop :=
 Nw 27 ⟨[(.int .i64 s1.1), (.int .i64 s1.2.1), (.slice s1.2.2.1.base s1.2.2.1.len s1.2.2.1.cap), (.slice s1.2.2.2.1.base s1.2.2.2.1.len s1.2.2.2.1.cap), (.int .i64 s1.2.2.2.2.1), (.slice s1.2.2.2.2.2.1.base s1.2.2.2.2.2.1.len s1.2.2.2.2.2.1.cap), (.int .i64 s1.2.2.2.2.2.2.1), (.slice s1.2.2.2.2.2.2.2.1.base s1.2.2.2.2.2.2.2.1.len s1.2.2.2.2.2.2.2.1.cap)]⟩ w fun (b4 : Nat) (w_3 : World) =>
 Ld (.st [.int .i64, .int .i64, .sl, .sl, .int .i64, .sl, .int .i64, .sl]) (⟨b4, 0, none⟩ : Addr) w_3 fun (x5 : (TT [.int .i64, .int .i64, .sl, .sl, .int .i64, .sl, .int .i64, .sl])) =>
 Cl Tryd.prog [kB] n_ref30_Great ⟨[(.agg ⟨[(.int .i64 x5.1), (.int .i64 x5.2.1), (.slice x5.2.2.1.base x5.2.2.1.len x5.2.2.1.cap), (.slice x5.2.2.2.1.base x5.2.2.2.1.len x5.2.2.2.1.cap), (.int .i64 x5.2.2.2.2.1), (.slice x5.2.2.2.2.2.1.base x5.2.2.2.2.2.1.len x5.2.2.2.2.2.1.cap), (.int .i64 x5.2.2.2.2.2.2.1), (.slice x5.2.2.2.2.2.2.2.1.base x5.2.2.2.2.2.2.2.1.len x5.2.2.2.2.2.2.2.1.cap)]⟩)]⟩ w_3 fun (r7 : Bool) (w_6 : World) =>
 IfB r7
 (Cl Tryd.prog [kB] n_law30_wakes ⟨[]⟩ w_6 fun (r9 : Bool) (w_8 : World) =>
 R (r9) w_8)
 (Ld (.st [.int .i64, .int .i64, .sl, .sl, .int .i64, .sl, .int .i64, .sl]) (⟨b4, 0, none⟩ : Addr) w_6 fun (x10 : (TT [.int .i64, .int .i64, .sl, .sl, .int .i64, .sl, .int .i64, .sl])) =>
 Cl Tryd.prog [kStr, kI] n_script_Print ⟨[(.agg ⟨[(.int .i64 x10.1), (.int .i64 x10.2.1), (.slice x10.2.2.1.base x10.2.2.1.len x10.2.2.1.cap), (.slice x10.2.2.2.1.base x10.2.2.2.1.len x10.2.2.2.1.cap), (.int .i64 x10.2.2.2.2.1), (.slice x10.2.2.2.2.2.1.base x10.2.2.2.2.2.1.len x10.2.2.2.2.2.1.cap), (.int .i64 x10.2.2.2.2.2.2.1), (.slice x10.2.2.2.2.2.2.2.1.base x10.2.2.2.2.2.2.2.1.len x10.2.2.2.2.2.2.2.1.cap)]⟩)]⟩ w_6 fun (r12 : ByteArray) (r13 : Int) (w_11 : World) =>
 IfB ((r13 : Int) != (0 : Int))
 (IfB ((r13 : Int) == (2 : Int))
 (IfB ((r12).toList == ((ByteArray.mk #[])).toList)
 (Cl Tryd.prog [kB] n_law30_wakes ⟨[]⟩ w_11 fun (r15 : Bool) (w_14 : World) =>
 R (r15) w_14)
 (R (false) w_11))
 (R (false) w_11))
 (Join (fun (o46 : Addr) (n47 : Int) (f48 : Int) (w_49 : World) =>
 Ld (.st [.int .i64, .int .i64, .sl, .sl, .int .i64, .sl, .int .i64, .sl]) o46 w_49 fun (x50 : (TT [.int .i64, .int .i64, .sl, .sl, .int .i64, .sl, .int .i64, .sl])) =>
 Cl Tryd.prog [kStr, kI] n_script_Print ⟨[(.agg ⟨[(.int .i64 x50.1), (.int .i64 x50.2.1), (.slice x50.2.2.1.base x50.2.2.1.len x50.2.2.1.cap), (.slice x50.2.2.2.1.base x50.2.2.2.1.len x50.2.2.2.1.cap), (.int .i64 x50.2.2.2.2.1), (.slice x50.2.2.2.2.2.1.base x50.2.2.2.2.2.1.len x50.2.2.2.2.2.1.cap), (.int .i64 x50.2.2.2.2.2.2.1), (.slice x50.2.2.2.2.2.2.2.1.base x50.2.2.2.2.2.2.2.1.len x50.2.2.2.2.2.2.2.1.cap)]⟩)]⟩ w_49 fun (r52 : ByteArray) (r53 : Int) (w_51 : World) =>
 Ld (.st [.int .i64, .int .i64, .sl, .sl, .int .i64, .sl, .int .i64, .sl]) (⟨b4, 0, none⟩ : Addr) w_51 fun (x54 : (TT [.int .i64, .int .i64, .sl, .sl, .int .i64, .sl, .int .i64, .sl])) =>
 Nw 27 ⟨[(.int .i64 0), (.int .i64 0), (.slice none 0 0), (.slice none 0 0), (.int .i64 0), (.slice none 0 0), (.int .i64 0), (.slice none 0 0)]⟩ w_51 fun (b56 : Nat) (w_55 : World) =>
 StC (⟨b56, 0, none⟩ : Addr) [(.int .i64 x54.1), (.int .i64 x54.2.1), (.slice x54.2.2.1.base x54.2.2.1.len x54.2.2.1.cap), (.slice x54.2.2.2.1.base x54.2.2.2.1.len x54.2.2.2.1.cap), (.int .i64 x54.2.2.2.2.1), (.slice x54.2.2.2.2.2.1.base x54.2.2.2.2.2.1.len x54.2.2.2.2.2.1.cap), (.int .i64 x54.2.2.2.2.2.2.1), (.slice x54.2.2.2.2.2.2.2.1.base x54.2.2.2.2.2.2.2.1.len x54.2.2.2.2.2.2.2.1.cap)] 0 w_55 fun (w_57 : World) =>
 St ((⟨b56, 0, none⟩ : Addr).add 2) (.slice none 0 0) w_57 fun (w_58 : World) =>
 ∃ (I_59 : Int → World → Prop) (m_60 : Int → World → Nat), I_59 (0) w_58 ∧
 ∀ (i61 : Int), ∀ (w_62 : World), I_59 i61 w_62 →
 Ld kS ((⟨b4, 0, none⟩ : Addr).add 2) w_62 fun (Deeds63 : Sl) =>
 IfB (decide ((i61 : Int) < ((Deeds63.len : Int) : Int)))
 (Join (fun (w_82 : World) =>
 I_59 ((i64 ((i61 : Int) + (1 : Int)))) w_82 ∧ m_60 ((i64 ((i61 : Int) + (1 : Int)))) w_82 < m_60 i61 w_62) fun (K_64 : World → Prop) =>
 Ld kS ((⟨b4, 0, none⟩ : Addr).add 2) w_62 fun (Deeds65 : Sl) =>
 Idx Deeds65 i61 2 fun (q66 : Addr) =>
 Ld (.st [.bool, .sl]) q66 w_62 fun (x67 : (TT [.bool, .sl])) =>
 Nw 40 ⟨[(.bool false), (.slice none 0 0)]⟩ w_62 fun (b69 : Nat) (w_68 : World) =>
 StC (⟨b69, 0, none⟩ : Addr) [(.bool x67.1), (.slice x67.2.1.base x67.2.1.len x67.2.1.cap)] 0 w_68 fun (w_70 : World) =>
 Join (fun (w_74 : World) =>
 Ld kS ((⟨b56, 0, none⟩ : Addr).add 2) w_74 fun (Deeds75 : Sl) =>
 Ld (.st [.bool, .sl]) (⟨b69, 0, none⟩ : Addr) w_74 fun (x76 : (TT [.bool, .sl])) =>
 Nw 40 ⟨[(.bool x76.1), (.slice x76.2.1.base x76.2.1.len x76.2.1.cap)]⟩ w_74 fun (b78 : Nat) (w_77 : World) =>
 Run Tryd.prog (Builtin.append_ #[22, 22] 22 ⟨[(.slice Deeds75.base Deeds75.len Deeds75.cap), (.slice (⟨some ⟨b78, 0, none⟩, 1, 1⟩ : Sl).base (⟨some ⟨b78, 0, none⟩, 1, 1⟩ : Sl).len (⟨some ⟨b78, 0, none⟩, 1, 1⟩ : Sl).cap)]⟩) kS w_77 fun (s80 : Sl) (w_79 : World) =>
 St ((⟨b56, 0, none⟩ : Addr).add 2) (.slice s80.base s80.len s80.cap) w_79 fun (w_81 : World) =>
 K_64  w_81) fun (K_71 : World → Prop) =>
 Ld kB ((⟨b69, 0, none⟩ : Addr).add 0) w_70 fun (Flush72 : Bool) =>
 IfB Flush72
 (St ((⟨b69, 0, none⟩ : Addr).add 1) (.slice none 0 0) w_70 fun (w_73 : World) =>
 K_71  w_73)
 (K_71  w_70))
 (IfB ((f48 : Int) == (0 : Int))
 (IfB ((n47 : Int) == (0 : Int))
 (Ld (.st [.int .i64, .int .i64, .sl, .sl, .int .i64, .sl, .int .i64, .sl]) o46 w_62 fun (x83 : (TT [.int .i64, .int .i64, .sl, .sl, .int .i64, .sl, .int .i64, .sl])) =>
 Ld (.st [.int .i64, .int .i64, .sl, .sl, .int .i64, .sl, .int .i64, .sl]) (⟨b56, 0, none⟩ : Addr) w_62 fun (x84 : (TT [.int .i64, .int .i64, .sl, .sl, .int .i64, .sl, .int .i64, .sl])) =>
 Cl Tryd.prog [kB] n_script_Equal ⟨[(.agg ⟨[(.int .i64 x83.1), (.int .i64 x83.2.1), (.slice x83.2.2.1.base x83.2.2.1.len x83.2.2.1.cap), (.slice x83.2.2.2.1.base x83.2.2.2.1.len x83.2.2.2.1.cap), (.int .i64 x83.2.2.2.2.1), (.slice x83.2.2.2.2.2.1.base x83.2.2.2.2.2.1.len x83.2.2.2.2.2.1.cap), (.int .i64 x83.2.2.2.2.2.2.1), (.slice x83.2.2.2.2.2.2.2.1.base x83.2.2.2.2.2.2.2.1.len x83.2.2.2.2.2.2.2.1.cap)]⟩), (.agg ⟨[(.int .i64 x84.1), (.int .i64 x84.2.1), (.slice x84.2.2.1.base x84.2.2.1.len x84.2.2.1.cap), (.slice x84.2.2.2.1.base x84.2.2.2.1.len x84.2.2.2.1.cap), (.int .i64 x84.2.2.2.2.1), (.slice x84.2.2.2.2.2.1.base x84.2.2.2.2.2.1.len x84.2.2.2.2.2.1.cap), (.int .i64 x84.2.2.2.2.2.2.1), (.slice x84.2.2.2.2.2.2.2.1.base x84.2.2.2.2.2.2.2.1.len x84.2.2.2.2.2.2.2.1.cap)]⟩)]⟩ w_62 fun (r86 : Bool) (w_85 : World) =>
 IfB r86
 (IfB ((r53 : Int) == (0 : Int))
 (IfB ((r52).toList == (r12).toList)
 (IfB (decide ((((r12).size : Int) : Int) ≤ (65536 : Int)))
 (Cl Tryd.prog [kB] n_law30_wakes ⟨[]⟩ w_85 fun (r88 : Bool) (w_87 : World) =>
 R (r88) w_87)
 (R (false) w_85))
 (R (false) w_85))
 (R (false) w_85))
 (R (false) w_85))
 (R (false) w_62))
 (R (false) w_62))) fun (K_16 : Addr → Int → Int → World → Prop) =>
 Held w_11 fun (S17 : World → Prop) (w_18 : World) =>
 SlcS r12 0 (if (((r12).size : Int) : Int) < ((if (0 : Int) > (at_2 : Int) then (0 : Int) else (at_2 : Int)) : Int) then (((r12).size : Int) : Int) else ((if (0 : Int) > (at_2 : Int) then (0 : Int) else (at_2 : Int)) : Int)) fun (s19 : ByteArray) =>
 SlcS r12 (if (((r12).size : Int) : Int) < ((if (0 : Int) > (at_2 : Int) then (0 : Int) else (at_2 : Int)) : Int) then (((r12).size : Int) : Int) else ((if (0 : Int) > (at_2 : Int) then (0 : Int) else (at_2 : Int)) : Int)) (r12).size fun (s20 : ByteArray) =>
 (Nw 9 ⟨[(.string s19), (.string (ByteArray.mk #[])), (.string s20)]⟩ w_18 fun (b22 : Nat) (w_21 : World) =>
 S17 w_21 ∧
 (Cl Tryd.prog [(.st [.int .i64, .int .i64, .sl, .sl, .int .i64, .sl, .int .i64, .sl]), kI, kI] n_script_Parse ⟨[(.slice (⟨some ⟨b22, 0, none⟩, 3, 3⟩ : Sl).base (⟨some ⟨b22, 0, none⟩, 3, 3⟩ : Sl).len (⟨some ⟨b22, 0, none⟩, 3, 3⟩ : Sl).cap)]⟩ w_21 fun (r24 : (TT [.int .i64, .int .i64, .sl, .sl, .int .i64, .sl, .int .i64, .sl])) (r25 : Int) (r26 : Int) (w_23 : World) =>
 S17 w_23 ∧
 Nw 27 ⟨[(.int .i64 0), (.int .i64 0), (.slice none 0 0), (.slice none 0 0), (.int .i64 0), (.slice none 0 0), (.int .i64 0), (.slice none 0 0)]⟩ w_23 fun (b28 : Nat) (w_27 : World) =>
 S17 w_27 ∧
 StC (⟨b28, 0, none⟩ : Addr) [(.int .i64 r24.1), (.int .i64 r24.2.1), (.slice r24.2.2.1.base r24.2.2.1.len r24.2.2.1.cap), (.slice r24.2.2.2.1.base r24.2.2.2.1.len r24.2.2.2.1.cap), (.int .i64 r24.2.2.2.2.1), (.slice r24.2.2.2.2.2.1.base r24.2.2.2.2.2.1.len r24.2.2.2.2.2.1.cap), (.int .i64 r24.2.2.2.2.2.2.1), (.slice r24.2.2.2.2.2.2.2.1.base r24.2.2.2.2.2.2.2.1.len r24.2.2.2.2.2.2.2.1.cap)] 0 w_27 fun (w_29 : World) =>
 S17 w_29 ∧
 K_16 ((⟨b28, 0, none⟩ : Addr)) (r25) (r26) w_29) ∧
 (Nw 27 ⟨[(.int .i64 0), (.int .i64 0), (.slice none 0 0), (.slice none 0 0), (.int .i64 0), (.slice none 0 0), (.int .i64 0), (.slice none 0 0)]⟩ w_21 fun (b31 : Nat) (w_30 : World) =>
 S17 w_30 ∧
 Cl Tryd.prog [(.st [.int .i64, .int .i64, .sl, .sl, .int .i64, .sl, .int .i64, .sl]), kI, kI] n_script_Parse ⟨[(.slice (⟨some ⟨b22, 0, none⟩, 3, 3⟩ : Sl).base (⟨some ⟨b22, 0, none⟩, 3, 3⟩ : Sl).len (⟨some ⟨b22, 0, none⟩, 3, 3⟩ : Sl).cap)]⟩ w_30 fun (r33 : (TT [.int .i64, .int .i64, .sl, .sl, .int .i64, .sl, .int .i64, .sl])) (r34 : Int) (r35 : Int) (w_32 : World) =>
 S17 w_32 ∧
 StC (⟨b31, 0, none⟩ : Addr) [(.int .i64 r33.1), (.int .i64 r33.2.1), (.slice r33.2.2.1.base r33.2.2.1.len r33.2.2.1.cap), (.slice r33.2.2.2.1.base r33.2.2.2.1.len r33.2.2.2.1.cap), (.int .i64 r33.2.2.2.2.1), (.slice r33.2.2.2.2.2.1.base r33.2.2.2.2.2.1.len r33.2.2.2.2.2.1.cap), (.int .i64 r33.2.2.2.2.2.2.1), (.slice r33.2.2.2.2.2.2.2.1.base r33.2.2.2.2.2.2.2.1.len r33.2.2.2.2.2.2.2.1.cap)] 0 w_32 fun (w_36 : World) =>
 S17 w_36 ∧
 K_16 ((⟨b31, 0, none⟩ : Addr)) (r34) (r35) w_36)) ∧
 (Nw 27 ⟨[(.int .i64 0), (.int .i64 0), (.slice none 0 0), (.slice none 0 0), (.int .i64 0), (.slice none 0 0), (.int .i64 0), (.slice none 0 0)]⟩ w_18 fun (b38 : Nat) (w_37 : World) =>
 S17 w_37 ∧
 Nw 9 ⟨[(.string s19), (.string (ByteArray.mk #[])), (.string s20)]⟩ w_37 fun (b40 : Nat) (w_39 : World) =>
 S17 w_39 ∧
 Cl Tryd.prog [(.st [.int .i64, .int .i64, .sl, .sl, .int .i64, .sl, .int .i64, .sl]), kI, kI] n_script_Parse ⟨[(.slice (⟨some ⟨b40, 0, none⟩, 3, 3⟩ : Sl).base (⟨some ⟨b40, 0, none⟩, 3, 3⟩ : Sl).len (⟨some ⟨b40, 0, none⟩, 3, 3⟩ : Sl).cap)]⟩ w_39 fun (r42 : (TT [.int .i64, .int .i64, .sl, .sl, .int .i64, .sl, .int .i64, .sl])) (r43 : Int) (r44 : Int) (w_41 : World) =>
 S17 w_41 ∧
 StC (⟨b38, 0, none⟩ : Addr) [(.int .i64 r42.1), (.int .i64 r42.2.1), (.slice r42.2.2.1.base r42.2.2.1.len r42.2.2.1.cap), (.slice r42.2.2.2.1.base r42.2.2.2.1.len r42.2.2.2.1.cap), (.int .i64 r42.2.2.2.2.1), (.slice r42.2.2.2.2.2.1.base r42.2.2.2.2.2.1.len r42.2.2.2.2.2.1.cap), (.int .i64 r42.2.2.2.2.2.2.1), (.slice r42.2.2.2.2.2.2.2.1.base r42.2.2.2.2.2.2.2.1.len r42.2.2.2.2.2.2.2.1.cap)] 0 w_41 fun (w_45 : World) =>
 S17 w_45 ∧
 K_16 ((⟨b38, 0, none⟩ : Addr)) (r43) (r44) w_45)))
set_option maxRecDepth 100000 in
theorem law30_ScriptBack.ok (s1 : (TT [.int .i64, .int .i64, .sl, .sl, .int .i64, .sl, .int .i64, .sl])) (at_2 : Int) (R : Bool → World → Prop) (w : World) (h : law30_ScriptBack.E s1 at_2 R w) : Cl Tryd.prog [kB] n_law30_ScriptBack ⟨[(.agg ⟨[(.int .i64 s1.1), (.int .i64 s1.2.1), (.slice s1.2.2.1.base s1.2.2.1.len s1.2.2.1.cap), (.slice s1.2.2.2.1.base s1.2.2.2.1.len s1.2.2.2.1.cap), (.int .i64 s1.2.2.2.2.1), (.slice s1.2.2.2.2.2.1.base s1.2.2.2.2.2.1.len s1.2.2.2.2.2.1.cap), (.int .i64 s1.2.2.2.2.2.2.1), (.slice s1.2.2.2.2.2.2.2.1.base s1.2.2.2.2.2.2.2.1.len s1.2.2.2.2.2.2.2.1.cap)]⟩), (.int .i64 at_2)]⟩ w R :=
  calls_of_eq Tryd.mix Tryd.f4 [(.agg ⟨[(.int .i64 s1.1), (.int .i64 s1.2.1), (.slice s1.2.2.1.base s1.2.2.1.len s1.2.2.1.cap), (.slice s1.2.2.2.1.base s1.2.2.2.1.len s1.2.2.2.1.cap), (.int .i64 s1.2.2.2.2.1), (.slice s1.2.2.2.2.2.1.base s1.2.2.2.2.2.1.len s1.2.2.2.2.2.1.cap), (.int .i64 s1.2.2.2.2.2.2.1), (.slice s1.2.2.2.2.2.2.2.1.base s1.2.2.2.2.2.2.2.1.len s1.2.2.2.2.2.2.2.1.cap)]⟩), (.int .i64 at_2)] [kB] R 107 [.tmp 4] (by kernel_rfl) (by kernel_rfl) (by kernel_rfl) (by kernel_rfl) (by kernel_rfl)
    (.s .o (.s (.s .o (.c (.s .o .o) .o)) (.s .o (.s (.s .o (.c (.s .o .o) .o)) (.s .o (.s .o (.s .o (.s .o (.s .o (.s (.s .o (.b (.l [(13, kI)] (.s (.s .o (.c .o .o)) (.j [] (.b (.s .o (.j [] (.s .o (.c .o .o)) .o))) .o))))) (.s .o .o)))))))))))
    (by kernel_rfl) h
set_option maxRecDepth 100000 in
/-- winepresslaw30.ScriptLines -/
def law30_ScriptLines.E (x1 : ByteArray) (remark2 : ByteArray) (at_3 : Int) (behind4 : ByteArray) (R : Bool → World → Prop) (w : World) : Prop :=
 Join (fun (w_11 : World) =>
 ∃ (I_12 : Int → World → Prop) (m_13 : Int → World → Nat), I_12 (0) w_11 ∧
 ∀ (i14 : Int), ∀ (w_15 : World), I_12 i14 w_15 →
 IfB (decide ((i14 : Int) < (((remark2).size : Int) : Int)))
 (0 ≤ (i14 : Int) ∧ (i14 : Int) < ((remark2).size : Int) ∧
 IfB (((strAt remark2 (i14 : Int).toNat) : Int) == (10 : Int))
 (Cl Tryd.prog [kB] n_law30_wakes ⟨[]⟩ w_15 fun (r17 : Bool) (w_16 : World) =>
 R (r17) w_16)
 (I_12 ((i64 ((i14 : Int) + (1 : Int)))) w_15 ∧ m_13 ((i64 ((i14 : Int) + (1 : Int)))) w_15 < m_13 i14 w_15))
 (Cl Tryd.prog [kS] n_ref30_Lines ⟨[(.string x1)]⟩ w_15 fun (r19 : Sl) (w_18 : World) =>
 IfB (decide (((r19.len : Int) : Int) > (900 : Int)))
 (Cl Tryd.prog [kB] n_law30_wakes ⟨[]⟩ w_18 fun (r21 : Bool) (w_20 : World) =>
 R (r21) w_20)
 (∃ (I_22 : ByteArray → Int → World → Prop) (m_23 : ByteArray → Int → World → Nat), I_22 ((ByteArray.mk #[])) (0) w_18 ∧
 ∀ (y24 : ByteArray) (i25 : Int), ∀ (w_26 : World), I_22 y24 i25 w_26 →
 IfB (decide ((i25 : Int) < ((r19.len : Int) : Int)))
 (Join (fun (y33 : ByteArray) (w_34 : World) =>
 I_22 (y33) ((i64 ((i25 : Int) + (1 : Int)))) w_34 ∧ m_23 (y33) ((i64 ((i25 : Int) + (1 : Int)))) w_34 < m_23 y24 i25 w_26) fun (K_27 : ByteArray → World → Prop) =>
 Join (fun (y29 : ByteArray) (w_30 : World) =>
 Idx r19 i25 1 fun (q31 : Addr) =>
 Ld kStr q31 w_30 fun (x32 : ByteArray) =>
 ((y29).size : Int) + ((x32).size : Int) ≤ 9223372036854775807 ∧
 (((y29 ++ x32)).size : Int) + (((ByteArray.mk #[10])).size : Int) ≤ 9223372036854775807 ∧
 K_27 (((y29 ++ x32) ++ (ByteArray.mk #[10]))) w_30) fun (K_28 : ByteArray → World → Prop) =>
 IfB ((i25 : Int) == ((if ((r19.len : Int) : Int) < ((if (0 : Int) > (at_3 : Int) then (0 : Int) else (at_3 : Int)) : Int) then ((r19.len : Int) : Int) else ((if (0 : Int) > (at_3 : Int) then (0 : Int) else (at_3 : Int)) : Int)) : Int))
 (((y24).size : Int) + (((ByteArray.mk #[10, 32, 32, 35])).size : Int) ≤ 9223372036854775807 ∧
 (((y24 ++ (ByteArray.mk #[10, 32, 32, 35]))).size : Int) + ((remark2).size : Int) ≤ 9223372036854775807 ∧
 ((((y24 ++ (ByteArray.mk #[10, 32, 32, 35])) ++ remark2)).size : Int) + (((ByteArray.mk #[10])).size : Int) ≤ 9223372036854775807 ∧
 K_28 ((((y24 ++ (ByteArray.mk #[10, 32, 32, 35])) ++ remark2) ++ (ByteArray.mk #[10]))) w_26)
 (K_28 (y24) w_26))
 (Nw 9 ⟨[(.string x1)]⟩ w_26 fun (b36 : Nat) (w_35 : World) =>
 Cl Tryd.prog [(.st [.int .i64, .int .i64, .sl, .sl, .int .i64, .sl, .int .i64, .sl]), kI, kI] n_script_Parse ⟨[(.slice (⟨some ⟨b36, 0, none⟩, 1, 1⟩ : Sl).base (⟨some ⟨b36, 0, none⟩, 1, 1⟩ : Sl).len (⟨some ⟨b36, 0, none⟩, 1, 1⟩ : Sl).cap)]⟩ w_35 fun (r38 : (TT [.int .i64, .int .i64, .sl, .sl, .int .i64, .sl, .int .i64, .sl])) (r39 : Int) (r40 : Int) (w_37 : World) =>
 Nw 27 ⟨[(.int .i64 0), (.int .i64 0), (.slice none 0 0), (.slice none 0 0), (.int .i64 0), (.slice none 0 0), (.int .i64 0), (.slice none 0 0)]⟩ w_37 fun (b42 : Nat) (w_41 : World) =>
 StC (⟨b42, 0, none⟩ : Addr) [(.int .i64 r38.1), (.int .i64 r38.2.1), (.slice r38.2.2.1.base r38.2.2.1.len r38.2.2.1.cap), (.slice r38.2.2.2.1.base r38.2.2.2.1.len r38.2.2.2.1.cap), (.int .i64 r38.2.2.2.2.1), (.slice r38.2.2.2.2.2.1.base r38.2.2.2.2.2.1.len r38.2.2.2.2.2.1.cap), (.int .i64 r38.2.2.2.2.2.2.1), (.slice r38.2.2.2.2.2.2.2.1.base r38.2.2.2.2.2.2.2.1.len r38.2.2.2.2.2.2.2.1.cap)] 0 w_41 fun (w_43 : World) =>
 Nw 9 ⟨[(.string y24)]⟩ w_43 fun (b45 : Nat) (w_44 : World) =>
 Cl Tryd.prog [(.st [.int .i64, .int .i64, .sl, .sl, .int .i64, .sl, .int .i64, .sl]), kI, kI] n_script_Parse ⟨[(.slice (⟨some ⟨b45, 0, none⟩, 1, 1⟩ : Sl).base (⟨some ⟨b45, 0, none⟩, 1, 1⟩ : Sl).len (⟨some ⟨b45, 0, none⟩, 1, 1⟩ : Sl).cap)]⟩ w_44 fun (r47 : (TT [.int .i64, .int .i64, .sl, .sl, .int .i64, .sl, .int .i64, .sl])) (r48 : Int) (r49 : Int) (w_46 : World) =>
 Nw 27 ⟨[(.int .i64 0), (.int .i64 0), (.slice none 0 0), (.slice none 0 0), (.int .i64 0), (.slice none 0 0), (.int .i64 0), (.slice none 0 0)]⟩ w_46 fun (b51 : Nat) (w_50 : World) =>
 StC (⟨b51, 0, none⟩ : Addr) [(.int .i64 r47.1), (.int .i64 r47.2.1), (.slice r47.2.2.1.base r47.2.2.1.len r47.2.2.1.cap), (.slice r47.2.2.2.1.base r47.2.2.2.1.len r47.2.2.2.1.cap), (.int .i64 r47.2.2.2.2.1), (.slice r47.2.2.2.2.2.1.base r47.2.2.2.2.2.1.len r47.2.2.2.2.2.1.cap), (.int .i64 r47.2.2.2.2.2.2.1), (.slice r47.2.2.2.2.2.2.2.1.base r47.2.2.2.2.2.2.2.1.len r47.2.2.2.2.2.2.2.1.cap)] 0 w_50 fun (w_52 : World) =>
 Join (fun (want54 : Int) (w_55 : World) =>
 Join (fun (w_68 : World) =>
 Join (fun (w_77 : World) =>
 Nw 9 ⟨[(.string y24), (.string (ByteArray.mk #[102, 108, 117, 115, 104, 32, 49, 10])), (.string behind4)]⟩ w_77 fun (b79 : Nat) (w_78 : World) =>
 Cl Tryd.prog [(.st [.int .i64, .int .i64, .sl, .sl, .int .i64, .sl, .int .i64, .sl]), kI, kI] n_script_Parse ⟨[(.slice (⟨some ⟨b79, 0, none⟩, 3, 3⟩ : Sl).base (⟨some ⟨b79, 0, none⟩, 3, 3⟩ : Sl).len (⟨some ⟨b79, 0, none⟩, 3, 3⟩ : Sl).cap)]⟩ w_78 fun (r81 : (TT [.int .i64, .int .i64, .sl, .sl, .int .i64, .sl, .int .i64, .sl])) (r82 : Int) (r83 : Int) (w_80 : World) =>
 Nw 27 ⟨[(.int .i64 0), (.int .i64 0), (.slice none 0 0), (.slice none 0 0), (.int .i64 0), (.slice none 0 0), (.int .i64 0), (.slice none 0 0)]⟩ w_80 fun (b85 : Nat) (w_84 : World) =>
 StC (⟨b85, 0, none⟩ : Addr) [(.int .i64 r81.1), (.int .i64 r81.2.1), (.slice r81.2.2.1.base r81.2.2.1.len r81.2.2.1.cap), (.slice r81.2.2.2.1.base r81.2.2.2.1.len r81.2.2.2.1.cap), (.int .i64 r81.2.2.2.2.1), (.slice r81.2.2.2.2.2.1.base r81.2.2.2.2.2.1.len r81.2.2.2.2.2.1.cap), (.int .i64 r81.2.2.2.2.2.2.1), (.slice r81.2.2.2.2.2.2.2.1.base r81.2.2.2.2.2.2.2.1.len r81.2.2.2.2.2.2.2.1.cap)] 0 w_84 fun (w_86 : World) =>
 Join (fun (lines88 : Int) (w_89 : World) =>
 IfB ((r83 : Int) == (300 : Int))
 (IfB ((r82 : Int) == (lines88 : Int))
 (Cl Tryd.prog [kB] n_law30_wakes ⟨[]⟩ w_89 fun (r91 : Bool) (w_90 : World) =>
 R (r91) w_90)
 (R (false) w_89))
 (R (false) w_89)) fun (K_87 : Int → World → Prop) =>
 IfB (decide (((if ((r19.len : Int) : Int) < ((if (0 : Int) > (at_3 : Int) then (0 : Int) else (at_3 : Int)) : Int) then ((r19.len : Int) : Int) else ((if (0 : Int) > (at_3 : Int) then (0 : Int) else (at_3 : Int)) : Int)) : Int) < ((r19.len : Int) : Int)))
 (K_87 ((i64 (((r19.len : Int) : Int) + (3 : Int)))) w_86)
 (K_87 ((i64 (((r19.len : Int) : Int) + (1 : Int)))) w_86)) fun (K_69 : World → Prop) =>
 Join (fun (t126_73 : Bool) (w_74 : World) =>
 IfB t126_73
 (Cl Tryd.prog [kB] n_law30_wakes ⟨[]⟩ w_74 fun (r76 : Bool) (w_75 : World) =>
 R (r76) w_75)
 (K_69  w_74)) fun (K_70 : Bool → World → Prop) =>
 IfB ((r40 : Int) != (0 : Int))
 (K_70 (true) w_68)
 (Cl Tryd.prog [kS] n_ref30_Lines ⟨[(.string behind4)]⟩ w_68 fun (r72 : Sl) (w_71 : World) =>
 K_70 ((decide (((r72.len : Int) : Int) > (90 : Int)))) w_71)) fun (K_56 : World → Prop) =>
 Join (fun (t118_66 : Bool) (w_67 : World) =>
 IfB t118_66
 (R (false) w_67)
 (K_56  w_67)) fun (K_57 : Bool → World → Prop) =>
 IfB ((r40 : Int) != (r49 : Int))
 (K_57 (true) w_55)
 (IfB ((r48 : Int) != (want54 : Int))
 (IfB ((r40 : Int) == (300 : Int))
 (K_57 (true) w_55)
 (Ld (.st [.int .i64, .int .i64, .sl, .sl, .int .i64, .sl, .int .i64, .sl]) (⟨b42, 0, none⟩ : Addr) w_55 fun (x58 : (TT [.int .i64, .int .i64, .sl, .sl, .int .i64, .sl, .int .i64, .sl])) =>
 Ld (.st [.int .i64, .int .i64, .sl, .sl, .int .i64, .sl, .int .i64, .sl]) (⟨b51, 0, none⟩ : Addr) w_55 fun (x59 : (TT [.int .i64, .int .i64, .sl, .sl, .int .i64, .sl, .int .i64, .sl])) =>
 Cl Tryd.prog [kB] n_script_Equal ⟨[(.agg ⟨[(.int .i64 x58.1), (.int .i64 x58.2.1), (.slice x58.2.2.1.base x58.2.2.1.len x58.2.2.1.cap), (.slice x58.2.2.2.1.base x58.2.2.2.1.len x58.2.2.2.1.cap), (.int .i64 x58.2.2.2.2.1), (.slice x58.2.2.2.2.2.1.base x58.2.2.2.2.2.1.len x58.2.2.2.2.2.1.cap), (.int .i64 x58.2.2.2.2.2.2.1), (.slice x58.2.2.2.2.2.2.2.1.base x58.2.2.2.2.2.2.2.1.len x58.2.2.2.2.2.2.2.1.cap)]⟩), (.agg ⟨[(.int .i64 x59.1), (.int .i64 x59.2.1), (.slice x59.2.2.1.base x59.2.2.1.len x59.2.2.1.cap), (.slice x59.2.2.2.1.base x59.2.2.2.1.len x59.2.2.2.1.cap), (.int .i64 x59.2.2.2.2.1), (.slice x59.2.2.2.2.2.1.base x59.2.2.2.2.2.1.len x59.2.2.2.2.2.1.cap), (.int .i64 x59.2.2.2.2.2.2.1), (.slice x59.2.2.2.2.2.2.2.1.base x59.2.2.2.2.2.2.2.1.len x59.2.2.2.2.2.2.2.1.cap)]⟩)]⟩ w_55 fun (r61 : Bool) (w_60 : World) =>
 K_57 ((!r61)) w_60))
 (Ld (.st [.int .i64, .int .i64, .sl, .sl, .int .i64, .sl, .int .i64, .sl]) (⟨b42, 0, none⟩ : Addr) w_55 fun (x62 : (TT [.int .i64, .int .i64, .sl, .sl, .int .i64, .sl, .int .i64, .sl])) =>
 Ld (.st [.int .i64, .int .i64, .sl, .sl, .int .i64, .sl, .int .i64, .sl]) (⟨b51, 0, none⟩ : Addr) w_55 fun (x63 : (TT [.int .i64, .int .i64, .sl, .sl, .int .i64, .sl, .int .i64, .sl])) =>
 Cl Tryd.prog [kB] n_script_Equal ⟨[(.agg ⟨[(.int .i64 x62.1), (.int .i64 x62.2.1), (.slice x62.2.2.1.base x62.2.2.1.len x62.2.2.1.cap), (.slice x62.2.2.2.1.base x62.2.2.2.1.len x62.2.2.2.1.cap), (.int .i64 x62.2.2.2.2.1), (.slice x62.2.2.2.2.2.1.base x62.2.2.2.2.2.1.len x62.2.2.2.2.2.1.cap), (.int .i64 x62.2.2.2.2.2.2.1), (.slice x62.2.2.2.2.2.2.2.1.base x62.2.2.2.2.2.2.2.1.len x62.2.2.2.2.2.2.2.1.cap)]⟩), (.agg ⟨[(.int .i64 x63.1), (.int .i64 x63.2.1), (.slice x63.2.2.1.base x63.2.2.1.len x63.2.2.1.cap), (.slice x63.2.2.2.1.base x63.2.2.2.1.len x63.2.2.2.1.cap), (.int .i64 x63.2.2.2.2.1), (.slice x63.2.2.2.2.2.1.base x63.2.2.2.2.2.1.len x63.2.2.2.2.2.1.cap), (.int .i64 x63.2.2.2.2.2.2.1), (.slice x63.2.2.2.2.2.2.2.1.base x63.2.2.2.2.2.2.2.1.len x63.2.2.2.2.2.2.2.1.cap)]⟩)]⟩ w_55 fun (r65 : Bool) (w_64 : World) =>
 K_57 ((!r65)) w_64))) fun (K_53 : Int → World → Prop) =>
 IfB (decide ((r39 : Int) > ((if ((r19.len : Int) : Int) < ((if (0 : Int) > (at_3 : Int) then (0 : Int) else (at_3 : Int)) : Int) then ((r19.len : Int) : Int) else ((if (0 : Int) > (at_3 : Int) then (0 : Int) else (at_3 : Int)) : Int)) : Int)))
 (K_53 ((i64 ((r39 : Int) + (2 : Int)))) w_52)
 (K_53 (r39) w_52))))) fun (K_5 : World → Prop) =>
 Join (fun (t36_7 : Bool) (w_8 : World) =>
 IfB t36_7
 (Cl Tryd.prog [kB] n_law30_wakes ⟨[]⟩ w_8 fun (r10 : Bool) (w_9 : World) =>
 R (r10) w_9)
 (K_5  w_8)) fun (K_6 : Bool → World → Prop) =>
 IfB (decide ((((x1).size : Int) : Int) > (5000 : Int)))
 (K_6 (true) w)
 (IfB (decide ((((remark2).size : Int) : Int) > (100 : Int)))
 (K_6 (true) w)
 (K_6 ((decide ((((behind4).size : Int) : Int) > (5000 : Int)))) w))
set_option maxRecDepth 100000 in
theorem law30_ScriptLines.ok (x1 : ByteArray) (remark2 : ByteArray) (at_3 : Int) (behind4 : ByteArray) (R : Bool → World → Prop) (w : World) (h : law30_ScriptLines.E x1 remark2 at_3 behind4 R w) : Cl Tryd.prog [kB] n_law30_ScriptLines ⟨[(.string x1), (.string remark2), (.int .i64 at_3), (.string behind4)]⟩ w R :=
  calls_of_eq Tryd.mix Tryd.f5 [(.string x1), (.string remark2), (.int .i64 at_3), (.string behind4)] [kB] R 156 [.tmp 8] (by kernel_rfl) (by kernel_rfl) (by kernel_rfl) (by kernel_rfl) (by kernel_rfl)
    (.s .o (.j [] (.j [(36, kB)] .o (.c (.s .o .o) .o)) (.s (.s .o (.b (.l [(9, kI)] (.s (.s .o (.c .o .o)) (.s (.b (.s .o (.c (.s .o .o) .o))) .o))))) (.s .o (.s (.s .o (.c (.s .o .o) .o)) (.s .o (.s .o (.s (.s .o (.b (.l [(11, kStr), (12, kI)] (.s (.s .o (.c .o .o)) (.j [(11, kStr)] (.b (.j [(11, kStr)] (.s .o (.c .o .o)) .o)) .o))))) (.s .o (.s .o (.s .o (.j [(19, kI)] (.s .o (.c .o .o)) (.j [] (.j [(118, kB)] .o (.c (.s .o .o) .o)) (.j [] (.j [(126, kB)] .o (.c (.s .o .o) .o)) (.s .o (.s .o (.j [(23, kI)] (.s .o (.c .o .o)) (.s .o .o))))))))))))))))))
    (by kernel_rfl) h
set_option maxRecDepth 100000 in
/-- winepresslaw30.ScriptHex -/
def law30_ScriptHex.E (b1 : Sl) (R : Bool → World → Prop) (w : World) : Prop :=
 IfB (decide (((b1.len : Int) : Int) > (200 : Int)))
 (Cl Tryd.prog [kB] n_law30_wakes ⟨[]⟩ w fun (r3 : Bool) (w_2 : World) =>
 R (r3) w_2)
 (Cl Tryd.prog [kStr] n_script_Hex ⟨[(.slice b1.base b1.len b1.cap)]⟩ w fun (r5 : ByteArray) (w_4 : World) =>
 IfB (((b1.len : Int) : Int) == (0 : Int))
 (IfB ((r5).toList == ((ByteArray.mk #[45])).toList)
 (Cl Tryd.prog [kB] n_law30_wakes ⟨[]⟩ w_4 fun (r7 : Bool) (w_6 : World) =>
 R (r7) w_6)
 (R (false) w_4))
 (∃ (I_8 : Int → World → Prop) (m_9 : Int → World → Nat), I_8 (0) w_4 ∧
 ∀ (i10 : Int), ∀ (w_11 : World), I_8 i10 w_11 →
 IfB (decide ((i10 : Int) < (((r5).size : Int) : Int)))
 (Join (fun (w_16 : World) =>
 I_8 ((i64 ((i10 : Int) + (1 : Int)))) w_16 ∧ m_9 ((i64 ((i10 : Int) + (1 : Int)))) w_16 < m_9 i10 w_11) fun (K_12 : World → Prop) =>
 Join (fun (t50_14 : Bool) (w_15 : World) =>
 IfB t50_14
 (R (false) w_15)
 (K_12  w_15)) fun (K_13 : Bool → World → Prop) =>
 0 ≤ (i10 : Int) ∧ (i10 : Int) < ((r5).size : Int) ∧
 IfB (decide (((strAt r5 (i10 : Int).toNat) : Int) ≥ (48 : Int)))
 (0 ≤ (i10 : Int) ∧ (i10 : Int) < ((r5).size : Int) ∧
 IfB (decide (((strAt r5 (i10 : Int).toNat) : Int) ≤ (57 : Int)))
 (K_13 (false) w_11)
 (0 ≤ (i10 : Int) ∧ (i10 : Int) < ((r5).size : Int) ∧
 IfB (decide (((strAt r5 (i10 : Int).toNat) : Int) ≥ (97 : Int)))
 (0 ≤ (i10 : Int) ∧ (i10 : Int) < ((r5).size : Int) ∧
 K_13 ((!(decide (((strAt r5 (i10 : Int).toNat) : Int) ≤ (102 : Int))))) w_11)
 (K_13 (true) w_11)))
 (0 ≤ (i10 : Int) ∧ (i10 : Int) < ((r5).size : Int) ∧
 IfB (decide (((strAt r5 (i10 : Int).toNat) : Int) ≥ (97 : Int)))
 (0 ≤ (i10 : Int) ∧ (i10 : Int) < ((r5).size : Int) ∧
 K_13 ((!(decide (((strAt r5 (i10 : Int).toNat) : Int) ≤ (102 : Int))))) w_11)
 (K_13 (true) w_11)))
 ((((ByteArray.mk #[119, 114, 105, 116, 101, 32])).size : Int) + ((r5).size : Int) ≤ 9223372036854775807 ∧
 Nw 9 ⟨[(.string ((ByteArray.mk #[119, 114, 105, 116, 101, 32]) ++ r5)), (.string (ByteArray.mk #[10, 98, 101, 104, 105, 110, 100, 32])), (.string r5)]⟩ w_11 fun (b18 : Nat) (w_17 : World) =>
 Cl Tryd.prog [(.st [.int .i64, .int .i64, .sl, .sl, .int .i64, .sl, .int .i64, .sl]), kI, kI] n_script_Parse ⟨[(.slice (⟨some ⟨b18, 0, none⟩, 3, 3⟩ : Sl).base (⟨some ⟨b18, 0, none⟩, 3, 3⟩ : Sl).len (⟨some ⟨b18, 0, none⟩, 3, 3⟩ : Sl).cap)]⟩ w_17 fun (r20 : (TT [.int .i64, .int .i64, .sl, .sl, .int .i64, .sl, .int .i64, .sl])) (r21 : Int) (r22 : Int) (w_19 : World) =>
 Nw 27 ⟨[(.int .i64 0), (.int .i64 0), (.slice none 0 0), (.slice none 0 0), (.int .i64 0), (.slice none 0 0), (.int .i64 0), (.slice none 0 0)]⟩ w_19 fun (b24 : Nat) (w_23 : World) =>
 StC (⟨b24, 0, none⟩ : Addr) [(.int .i64 r20.1), (.int .i64 r20.2.1), (.slice r20.2.2.1.base r20.2.2.1.len r20.2.2.1.cap), (.slice r20.2.2.2.1.base r20.2.2.2.1.len r20.2.2.2.1.cap), (.int .i64 r20.2.2.2.2.1), (.slice r20.2.2.2.2.2.1.base r20.2.2.2.2.2.1.len r20.2.2.2.2.2.1.cap), (.int .i64 r20.2.2.2.2.2.2.1), (.slice r20.2.2.2.2.2.2.2.1.base r20.2.2.2.2.2.2.2.1.len r20.2.2.2.2.2.2.2.1.cap)] 0 w_23 fun (w_25 : World) =>
 Join (fun (t2_67 : Bool) (w_68 : World) =>
 R (t2_67) w_68) fun (K_26 : Bool → World → Prop) =>
 Held w_25 fun (S27 : World → Prop) (w_28 : World) =>
 IfB ((((r5).size : Int) : Int) == ((i64 ((2 : Int) * ((b1.len : Int) : Int))) : Int))
 (IfB ((r22 : Int) == (0 : Int))
 (LdS kS ((⟨b24, 0, none⟩ : Addr).add 2) S27 fun (Deeds29 : Sl) =>
 IfB (((Deeds29.len : Int) : Int) == (1 : Int))
 (LdS kS ((⟨b24, 0, none⟩ : Addr).add 2) S27 fun (Deeds30 : Sl) =>
 Idx Deeds30 0 2 fun (q31 : Addr) =>
 LdS kS (q31.add 1) S27 fun (Bytes32 : Sl) =>
 (Run Tryd.prog (convert 24 9 (.slice Bytes32.base Bytes32.len Bytes32.cap)) kStr w_28 fun (s34 : ByteArray) (w_33 : World) =>
 S27 w_33 ∧
 Run Tryd.prog (convert 24 9 (.slice b1.base b1.len b1.cap)) kStr w_33 fun (s36 : ByteArray) (w_35 : World) =>
 S27 w_35 ∧
 IfB ((s34).toList == (s36).toList)
 (LdS kS ((⟨b24, 0, none⟩ : Addr).add 5) S27 fun (Behind37 : Sl) =>
 (Run Tryd.prog (convert 24 9 (.slice Behind37.base Behind37.len Behind37.cap)) kStr w_35 fun (s39 : ByteArray) (w_38 : World) =>
 S27 w_38 ∧
 Run Tryd.prog (convert 24 9 (.slice b1.base b1.len b1.cap)) kStr w_38 fun (s41 : ByteArray) (w_40 : World) =>
 S27 w_40 ∧
 IfB ((s39).toList == (s41).toList)
 (Cl Tryd.prog [kB] n_law30_wakes ⟨[]⟩ w_40 fun (r43 : Bool) (w_42 : World) =>
 S27 w_42 ∧
 K_26 (r43) w_42)
 (K_26 (false) w_40)) ∧
 (Run Tryd.prog (convert 24 9 (.slice b1.base b1.len b1.cap)) kStr w_35 fun (s45 : ByteArray) (w_44 : World) =>
 S27 w_44 ∧
 Run Tryd.prog (convert 24 9 (.slice Behind37.base Behind37.len Behind37.cap)) kStr w_44 fun (s47 : ByteArray) (w_46 : World) =>
 S27 w_46 ∧
 IfB ((s47).toList == (s45).toList)
 (Cl Tryd.prog [kB] n_law30_wakes ⟨[]⟩ w_46 fun (r49 : Bool) (w_48 : World) =>
 S27 w_48 ∧
 K_26 (r49) w_48)
 (K_26 (false) w_46)))
 ((K_26 (false) w_35) ∧
 (K_26 (false) w_35))) ∧
 (Run Tryd.prog (convert 24 9 (.slice b1.base b1.len b1.cap)) kStr w_28 fun (s51 : ByteArray) (w_50 : World) =>
 S27 w_50 ∧
 Run Tryd.prog (convert 24 9 (.slice Bytes32.base Bytes32.len Bytes32.cap)) kStr w_50 fun (s53 : ByteArray) (w_52 : World) =>
 S27 w_52 ∧
 IfB ((s53).toList == (s51).toList)
 (LdS kS ((⟨b24, 0, none⟩ : Addr).add 5) S27 fun (Behind54 : Sl) =>
 (Run Tryd.prog (convert 24 9 (.slice Behind54.base Behind54.len Behind54.cap)) kStr w_52 fun (s56 : ByteArray) (w_55 : World) =>
 S27 w_55 ∧
 Run Tryd.prog (convert 24 9 (.slice b1.base b1.len b1.cap)) kStr w_55 fun (s58 : ByteArray) (w_57 : World) =>
 S27 w_57 ∧
 IfB ((s56).toList == (s58).toList)
 (Cl Tryd.prog [kB] n_law30_wakes ⟨[]⟩ w_57 fun (r60 : Bool) (w_59 : World) =>
 S27 w_59 ∧
 K_26 (r60) w_59)
 (K_26 (false) w_57)) ∧
 (Run Tryd.prog (convert 24 9 (.slice b1.base b1.len b1.cap)) kStr w_52 fun (s62 : ByteArray) (w_61 : World) =>
 S27 w_61 ∧
 Run Tryd.prog (convert 24 9 (.slice Behind54.base Behind54.len Behind54.cap)) kStr w_61 fun (s64 : ByteArray) (w_63 : World) =>
 S27 w_63 ∧
 IfB ((s64).toList == (s62).toList)
 (Cl Tryd.prog [kB] n_law30_wakes ⟨[]⟩ w_63 fun (r66 : Bool) (w_65 : World) =>
 S27 w_65 ∧
 K_26 (r66) w_65)
 (K_26 (false) w_63)))
 ((K_26 (false) w_52) ∧
 (K_26 (false) w_52))))
 (((K_26 (false) w_28) ∧
 (K_26 (false) w_28)) ∧
 ((K_26 (false) w_28) ∧
 (K_26 (false) w_28))))
 (((K_26 (false) w_28) ∧
 (K_26 (false) w_28)) ∧
 ((K_26 (false) w_28) ∧
 (K_26 (false) w_28))))
 (((K_26 (false) w_28) ∧
 (K_26 (false) w_28)) ∧
 ((K_26 (false) w_28) ∧
 (K_26 (false) w_28))))))
set_option maxRecDepth 100000 in
theorem law30_ScriptHex.ok (b1 : Sl) (R : Bool → World → Prop) (w : World) (h : law30_ScriptHex.E b1 R w) : Cl Tryd.prog [kB] n_law30_ScriptHex ⟨[(.slice b1.base b1.len b1.cap)]⟩ w R :=
  calls_of_eq Tryd.mix Tryd.f6 [(.slice b1.base b1.len b1.cap)] [kB] R 98 [.tmp 2] (by kernel_rfl) (by kernel_rfl) (by kernel_rfl) (by kernel_rfl) (by kernel_rfl)
    (.s .o (.s (.s .o (.c (.s .o .o) .o)) (.s .o (.s (.s .o (.c (.s .o .o) .o)) (.s (.s .o (.b (.l [(4, kI)] (.s (.s .o (.c .o .o)) (.j [] (.b (.j [(50, kB)] .o (.c (.s .o .o) .o))) .o))))) (.s .o (.s .o .o)))))))
    (by kernel_rfl) h
set_option maxRecDepth 100000 in
/-- winepresslaw30.wakes -/
def law30_wakes.E  (R : Bool → World → Prop) (w : World) : Prop :=
 Nw 9 ⟨[(.string (ByteArray.mk #[35, 32, 104, 105, 10, 32, 115, 105, 122, 101, 32, 32, 51, 48, 48, 32, 10, 119, 114, 105, 116, 101, 32, 48, 48, 102, 102, 10])), (.string (ByteArray.mk #[10, 119, 114, 105, 116, 101, 32, 45, 10, 102, 108, 117, 115, 104, 10, 115, 112, 111, 105, 108, 32, 45, 51, 32, 48, 97, 10, 98, 101, 104, 105, 110, 100, 32, 48, 49, 10, 98, 101, 104, 105, 110, 100, 32, 48, 50, 10, 99, 117, 116, 115, 32, 49, 32, 48, 10, 99, 117, 116, 115, 32, 55, 10, 114, 111, 111, 109, 32, 57]))]⟩ w fun (b2 : Nat) (w_1 : World) =>
 Cl Tryd.prog [(.st [.int .i64, .int .i64, .sl, .sl, .int .i64, .sl, .int .i64, .sl]), kI, kI] n_script_Parse ⟨[(.slice (⟨some ⟨b2, 0, none⟩, 2, 2⟩ : Sl).base (⟨some ⟨b2, 0, none⟩, 2, 2⟩ : Sl).len (⟨some ⟨b2, 0, none⟩, 2, 2⟩ : Sl).cap)]⟩ w_1 fun (r4 : (TT [.int .i64, .int .i64, .sl, .sl, .int .i64, .sl, .int .i64, .sl])) (r5 : Int) (r6 : Int) (w_3 : World) =>
 Nw 27 ⟨[(.int .i64 0), (.int .i64 0), (.slice none 0 0), (.slice none 0 0), (.int .i64 0), (.slice none 0 0), (.int .i64 0), (.slice none 0 0)]⟩ w_3 fun (b8 : Nat) (w_7 : World) =>
 StC (⟨b8, 0, none⟩ : Addr) [(.int .i64 r4.1), (.int .i64 r4.2.1), (.slice r4.2.2.1.base r4.2.2.1.len r4.2.2.1.cap), (.slice r4.2.2.2.1.base r4.2.2.2.1.len r4.2.2.2.1.cap), (.int .i64 r4.2.2.2.2.1), (.slice r4.2.2.2.2.2.1.base r4.2.2.2.2.2.1.len r4.2.2.2.2.2.1.cap), (.int .i64 r4.2.2.2.2.2.2.1), (.slice r4.2.2.2.2.2.2.2.1.base r4.2.2.2.2.2.2.2.1.len r4.2.2.2.2.2.2.2.1.cap)] 0 w_7 fun (w_9 : World) =>
 Nw 9 ⟨[(.string (ByteArray.mk #[102, 108, 117, 115, 104, 10, 10, 119, 114, 105, 116, 101, 32, 48]))]⟩ w_9 fun (b11 : Nat) (w_10 : World) =>
 Cl Tryd.prog [(.st [.int .i64, .int .i64, .sl, .sl, .int .i64, .sl, .int .i64, .sl]), kI, kI] n_script_Parse ⟨[(.slice (⟨some ⟨b11, 0, none⟩, 1, 1⟩ : Sl).base (⟨some ⟨b11, 0, none⟩, 1, 1⟩ : Sl).len (⟨some ⟨b11, 0, none⟩, 1, 1⟩ : Sl).cap)]⟩ w_10 fun (r13 : (TT [.int .i64, .int .i64, .sl, .sl, .int .i64, .sl, .int .i64, .sl])) (r14 : Int) (r15 : Int) (w_12 : World) =>
 Nw 27 ⟨[(.int .i64 0), (.int .i64 0), (.slice none 0 0), (.slice none 0 0), (.int .i64 0), (.slice none 0 0), (.int .i64 0), (.slice none 0 0)]⟩ w_12 fun (b17 : Nat) (w_16 : World) =>
 StC (⟨b17, 0, none⟩ : Addr) [(.int .i64 r13.1), (.int .i64 r13.2.1), (.slice r13.2.2.1.base r13.2.2.1.len r13.2.2.1.cap), (.slice r13.2.2.2.1.base r13.2.2.2.1.len r13.2.2.2.1.cap), (.int .i64 r13.2.2.2.2.1), (.slice r13.2.2.2.2.2.1.base r13.2.2.2.2.2.1.len r13.2.2.2.2.2.1.cap), (.int .i64 r13.2.2.2.2.2.2.1), (.slice r13.2.2.2.2.2.2.2.1.base r13.2.2.2.2.2.2.2.1.len r13.2.2.2.2.2.2.2.1.cap)] 0 w_16 fun (w_18 : World) =>
 Nw 9 ⟨[(.string (ByteArray.mk #[119, 114, 105, 116, 101, 32, 48, 70]))]⟩ w_18 fun (b20 : Nat) (w_19 : World) =>
 Cl Tryd.prog [(.st [.int .i64, .int .i64, .sl, .sl, .int .i64, .sl, .int .i64, .sl]), kI, kI] n_script_Parse ⟨[(.slice (⟨some ⟨b20, 0, none⟩, 1, 1⟩ : Sl).base (⟨some ⟨b20, 0, none⟩, 1, 1⟩ : Sl).len (⟨some ⟨b20, 0, none⟩, 1, 1⟩ : Sl).cap)]⟩ w_19 fun (r22 : (TT [.int .i64, .int .i64, .sl, .sl, .int .i64, .sl, .int .i64, .sl])) (r23 : Int) (r24 : Int) (w_21 : World) =>
 Nw 27 ⟨[(.int .i64 0), (.int .i64 0), (.slice none 0 0), (.slice none 0 0), (.int .i64 0), (.slice none 0 0), (.int .i64 0), (.slice none 0 0)]⟩ w_21 fun (b26 : Nat) (w_25 : World) =>
 StC (⟨b26, 0, none⟩ : Addr) [(.int .i64 r22.1), (.int .i64 r22.2.1), (.slice r22.2.2.1.base r22.2.2.1.len r22.2.2.1.cap), (.slice r22.2.2.2.1.base r22.2.2.2.1.len r22.2.2.2.1.cap), (.int .i64 r22.2.2.2.2.1), (.slice r22.2.2.2.2.2.1.base r22.2.2.2.2.2.1.len r22.2.2.2.2.2.1.cap), (.int .i64 r22.2.2.2.2.2.2.1), (.slice r22.2.2.2.2.2.2.2.1.base r22.2.2.2.2.2.2.2.1.len r22.2.2.2.2.2.2.2.1.cap)] 0 w_25 fun (w_27 : World) =>
 Nw 9 ⟨[(.string (ByteArray.mk #[115, 112, 111, 105, 108, 32, 49, 32, 48, 97, 48, 98]))]⟩ w_27 fun (b29 : Nat) (w_28 : World) =>
 Cl Tryd.prog [(.st [.int .i64, .int .i64, .sl, .sl, .int .i64, .sl, .int .i64, .sl]), kI, kI] n_script_Parse ⟨[(.slice (⟨some ⟨b29, 0, none⟩, 1, 1⟩ : Sl).base (⟨some ⟨b29, 0, none⟩, 1, 1⟩ : Sl).len (⟨some ⟨b29, 0, none⟩, 1, 1⟩ : Sl).cap)]⟩ w_28 fun (r31 : (TT [.int .i64, .int .i64, .sl, .sl, .int .i64, .sl, .int .i64, .sl])) (r32 : Int) (r33 : Int) (w_30 : World) =>
 Nw 27 ⟨[(.int .i64 0), (.int .i64 0), (.slice none 0 0), (.slice none 0 0), (.int .i64 0), (.slice none 0 0), (.int .i64 0), (.slice none 0 0)]⟩ w_30 fun (b35 : Nat) (w_34 : World) =>
 StC (⟨b35, 0, none⟩ : Addr) [(.int .i64 r31.1), (.int .i64 r31.2.1), (.slice r31.2.2.1.base r31.2.2.1.len r31.2.2.1.cap), (.slice r31.2.2.2.1.base r31.2.2.2.1.len r31.2.2.2.1.cap), (.int .i64 r31.2.2.2.2.1), (.slice r31.2.2.2.2.2.1.base r31.2.2.2.2.2.1.len r31.2.2.2.2.2.1.cap), (.int .i64 r31.2.2.2.2.2.2.1), (.slice r31.2.2.2.2.2.2.2.1.base r31.2.2.2.2.2.2.2.1.len r31.2.2.2.2.2.2.2.1.cap)] 0 w_34 fun (w_36 : World) =>
 Nw 9 ⟨[(.string (ByteArray.mk #[99, 117, 116, 115]))]⟩ w_36 fun (b38 : Nat) (w_37 : World) =>
 Cl Tryd.prog [(.st [.int .i64, .int .i64, .sl, .sl, .int .i64, .sl, .int .i64, .sl]), kI, kI] n_script_Parse ⟨[(.slice (⟨some ⟨b38, 0, none⟩, 1, 1⟩ : Sl).base (⟨some ⟨b38, 0, none⟩, 1, 1⟩ : Sl).len (⟨some ⟨b38, 0, none⟩, 1, 1⟩ : Sl).cap)]⟩ w_37 fun (r40 : (TT [.int .i64, .int .i64, .sl, .sl, .int .i64, .sl, .int .i64, .sl])) (r41 : Int) (r42 : Int) (w_39 : World) =>
 Nw 27 ⟨[(.int .i64 0), (.int .i64 0), (.slice none 0 0), (.slice none 0 0), (.int .i64 0), (.slice none 0 0), (.int .i64 0), (.slice none 0 0)]⟩ w_39 fun (b44 : Nat) (w_43 : World) =>
 StC (⟨b44, 0, none⟩ : Addr) [(.int .i64 r40.1), (.int .i64 r40.2.1), (.slice r40.2.2.1.base r40.2.2.1.len r40.2.2.1.cap), (.slice r40.2.2.2.1.base r40.2.2.2.1.len r40.2.2.2.1.cap), (.int .i64 r40.2.2.2.2.1), (.slice r40.2.2.2.2.2.1.base r40.2.2.2.2.2.1.len r40.2.2.2.2.2.1.cap), (.int .i64 r40.2.2.2.2.2.2.1), (.slice r40.2.2.2.2.2.2.2.1.base r40.2.2.2.2.2.2.2.1.len r40.2.2.2.2.2.2.2.1.cap)] 0 w_43 fun (w_45 : World) =>
 Nw 9 ⟨[(.string (ByteArray.mk #[115, 105, 122, 101, 32, 48, 49]))]⟩ w_45 fun (b47 : Nat) (w_46 : World) =>
 Cl Tryd.prog [(.st [.int .i64, .int .i64, .sl, .sl, .int .i64, .sl, .int .i64, .sl]), kI, kI] n_script_Parse ⟨[(.slice (⟨some ⟨b47, 0, none⟩, 1, 1⟩ : Sl).base (⟨some ⟨b47, 0, none⟩, 1, 1⟩ : Sl).len (⟨some ⟨b47, 0, none⟩, 1, 1⟩ : Sl).cap)]⟩ w_46 fun (r49 : (TT [.int .i64, .int .i64, .sl, .sl, .int .i64, .sl, .int .i64, .sl])) (r50 : Int) (r51 : Int) (w_48 : World) =>
 Nw 27 ⟨[(.int .i64 0), (.int .i64 0), (.slice none 0 0), (.slice none 0 0), (.int .i64 0), (.slice none 0 0), (.int .i64 0), (.slice none 0 0)]⟩ w_48 fun (b53 : Nat) (w_52 : World) =>
 StC (⟨b53, 0, none⟩ : Addr) [(.int .i64 r49.1), (.int .i64 r49.2.1), (.slice r49.2.2.1.base r49.2.2.1.len r49.2.2.1.cap), (.slice r49.2.2.2.1.base r49.2.2.2.1.len r49.2.2.2.1.cap), (.int .i64 r49.2.2.2.2.1), (.slice r49.2.2.2.2.2.1.base r49.2.2.2.2.2.1.len r49.2.2.2.2.2.1.cap), (.int .i64 r49.2.2.2.2.2.2.1), (.slice r49.2.2.2.2.2.2.2.1.base r49.2.2.2.2.2.2.2.1.len r49.2.2.2.2.2.2.2.1.cap)] 0 w_52 fun (w_54 : World) =>
 Cl Tryd.prog [(.st [.int .i64, .int .i64, .sl, .sl, .int .i64, .sl, .int .i64, .sl]), kI, kI] n_script_Parse ⟨[(.slice none 0 0)]⟩ w_54 fun (r56 : (TT [.int .i64, .int .i64, .sl, .sl, .int .i64, .sl, .int .i64, .sl])) (r57 : Int) (r58 : Int) (w_55 : World) =>
 Nw 27 ⟨[(.int .i64 0), (.int .i64 0), (.slice none 0 0), (.slice none 0 0), (.int .i64 0), (.slice none 0 0), (.int .i64 0), (.slice none 0 0)]⟩ w_55 fun (b60 : Nat) (w_59 : World) =>
 StC (⟨b60, 0, none⟩ : Addr) [(.int .i64 r56.1), (.int .i64 r56.2.1), (.slice r56.2.2.1.base r56.2.2.1.len r56.2.2.1.cap), (.slice r56.2.2.2.1.base r56.2.2.2.1.len r56.2.2.2.1.cap), (.int .i64 r56.2.2.2.2.1), (.slice r56.2.2.2.2.2.1.base r56.2.2.2.2.2.1.len r56.2.2.2.2.2.1.cap), (.int .i64 r56.2.2.2.2.2.2.1), (.slice r56.2.2.2.2.2.2.2.1.base r56.2.2.2.2.2.2.2.1.len r56.2.2.2.2.2.2.2.1.cap)] 0 w_59 fun (w_61 : World) =>
 Ld (.st [.int .i64, .int .i64, .sl, .sl, .int .i64, .sl, .int .i64, .sl]) (⟨b8, 0, none⟩ : Addr) w_61 fun (x62 : (TT [.int .i64, .int .i64, .sl, .sl, .int .i64, .sl, .int .i64, .sl])) =>
 Cl Tryd.prog [kStr, kI] n_script_Print ⟨[(.agg ⟨[(.int .i64 x62.1), (.int .i64 x62.2.1), (.slice x62.2.2.1.base x62.2.2.1.len x62.2.2.1.cap), (.slice x62.2.2.2.1.base x62.2.2.2.1.len x62.2.2.2.1.cap), (.int .i64 x62.2.2.2.2.1), (.slice x62.2.2.2.2.2.1.base x62.2.2.2.2.2.1.len x62.2.2.2.2.2.1.cap), (.int .i64 x62.2.2.2.2.2.2.1), (.slice x62.2.2.2.2.2.2.2.1.base x62.2.2.2.2.2.2.2.1.len x62.2.2.2.2.2.2.2.1.cap)]⟩)]⟩ w_61 fun (r64 : ByteArray) (r65 : Int) (w_63 : World) =>
 Cl Tryd.prog [kStr, kI] n_script_Print ⟨[(.agg ⟨[(.int .i64 0), (.int .i64 0), (.slice none 0 0), (.slice none 0 0), (.int .i64 4611686018427387905), (.slice none 0 0), (.int .i64 0), (.slice none 0 0)]⟩)]⟩ w_63 fun (r67 : ByteArray) (r68 : Int) (w_66 : World) =>
 Nw 9 ⟨[(.string r64)]⟩ w_66 fun (b70 : Nat) (w_69 : World) =>
 Cl Tryd.prog [(.st [.int .i64, .int .i64, .sl, .sl, .int .i64, .sl, .int .i64, .sl]), kI, kI] n_script_Parse ⟨[(.slice (⟨some ⟨b70, 0, none⟩, 1, 1⟩ : Sl).base (⟨some ⟨b70, 0, none⟩, 1, 1⟩ : Sl).len (⟨some ⟨b70, 0, none⟩, 1, 1⟩ : Sl).cap)]⟩ w_69 fun (r72 : (TT [.int .i64, .int .i64, .sl, .sl, .int .i64, .sl, .int .i64, .sl])) (r73 : Int) (r74 : Int) (w_71 : World) =>
 Nw 27 ⟨[(.int .i64 0), (.int .i64 0), (.slice none 0 0), (.slice none 0 0), (.int .i64 0), (.slice none 0 0), (.int .i64 0), (.slice none 0 0)]⟩ w_71 fun (b76 : Nat) (w_75 : World) =>
 StC (⟨b76, 0, none⟩ : Addr) [(.int .i64 r72.1), (.int .i64 r72.2.1), (.slice r72.2.2.1.base r72.2.2.1.len r72.2.2.1.cap), (.slice r72.2.2.2.1.base r72.2.2.2.1.len r72.2.2.2.1.cap), (.int .i64 r72.2.2.2.2.1), (.slice r72.2.2.2.2.2.1.base r72.2.2.2.2.2.1.len r72.2.2.2.2.2.1.cap), (.int .i64 r72.2.2.2.2.2.2.1), (.slice r72.2.2.2.2.2.2.2.1.base r72.2.2.2.2.2.2.2.1.len r72.2.2.2.2.2.2.2.1.cap)] 0 w_75 fun (w_77 : World) =>
 Join (fun (w_82 : World) =>
 IfB ((r6 : Int) == (0 : Int))
 (IfB ((r5 : Int) == (0 : Int))
 (Ld kI ((⟨b8, 0, none⟩ : Addr).add 0) w_82 fun (Size83 : Int) =>
 IfB ((Size83 : Int) == (300 : Int))
 (Ld kS ((⟨b8, 0, none⟩ : Addr).add 2) w_82 fun (Deeds84 : Sl) =>
 Idx Deeds84 0 2 fun (q85 : Addr) =>
 Ld kS (q85.add 1) w_82 fun (Bytes86 : Sl) =>
 Run Tryd.prog (convert 24 9 (.slice Bytes86.base Bytes86.len Bytes86.cap)) kStr w_82 fun (s88 : ByteArray) (w_87 : World) =>
 IfB ((s88).toList == ((ByteArray.mk #[0, 255])).toList)
 (Ld kS ((⟨b8, 0, none⟩ : Addr).add 2) w_87 fun (Deeds89 : Sl) =>
 Idx Deeds89 1 2 fun (q90 : Addr) =>
 Ld kS (q90.add 1) w_87 fun (Bytes91 : Sl) =>
 IfB (((Bytes91.len : Int) : Int) == (0 : Int))
 (Ld kS ((⟨b8, 0, none⟩ : Addr).add 2) w_87 fun (Deeds92 : Sl) =>
 Idx Deeds92 2 2 fun (q93 : Addr) =>
 Ld kB (q93.add 0) w_87 fun (Flush94 : Bool) =>
 IfB Flush94
 (Ld kS ((⟨b8, 0, none⟩ : Addr).add 3) w_87 fun (Spoils95 : Sl) =>
 Idx Spoils95 0 2 fun (q96 : Addr) =>
 Ld (.st [.int .i64, .int .u8]) q96 w_87 fun (x97 : (TT [.int .i64, .int .u8])) =>
 IfB (((x97.1 : Int) == ((-3) : Int)) && ((x97.2.1 : Int) == (10 : Int)))
 (Ld kS ((⟨b8, 0, none⟩ : Addr).add 5) w_87 fun (Behind98 : Sl) =>
 Run Tryd.prog (convert 24 9 (.slice Behind98.base Behind98.len Behind98.cap)) kStr w_87 fun (s100 : ByteArray) (w_99 : World) =>
 IfB ((s100).toList == ((ByteArray.mk #[1, 2])).toList)
 (Ld kS ((⟨b8, 0, none⟩ : Addr).add 7) w_99 fun (Cuts101 : Sl) =>
 Idx Cuts101 2 1 fun (q102 : Addr) =>
 Ld kI q102 w_99 fun (x103 : Int) =>
 IfB ((x103 : Int) == (7 : Int))
 (Ld kI ((⟨b8, 0, none⟩ : Addr).add 6) w_99 fun (Room104 : Int) =>
 IfB ((Room104 : Int) == (9 : Int))
 (IfB ((r14 : Int) == (3 : Int))
 (IfB ((r15 : Int) == (300 : Int))
 (IfB ((r24 : Int) == (300 : Int))
 (IfB ((r33 : Int) == (300 : Int))
 (IfB ((r42 : Int) == (300 : Int))
 (IfB ((r51 : Int) == (300 : Int))
 (IfB ((r58 : Int) == (0 : Int))
 (Ld (.st [.int .i64, .int .i64, .sl, .sl, .int .i64, .sl, .int .i64, .sl]) (⟨b60, 0, none⟩ : Addr) w_99 fun (x105 : (TT [.int .i64, .int .i64, .sl, .sl, .int .i64, .sl, .int .i64, .sl])) =>
 Cl Tryd.prog [kB] n_script_Equal ⟨[(.agg ⟨[(.int .i64 x105.1), (.int .i64 x105.2.1), (.slice x105.2.2.1.base x105.2.2.1.len x105.2.2.1.cap), (.slice x105.2.2.2.1.base x105.2.2.2.1.len x105.2.2.2.1.cap), (.int .i64 x105.2.2.2.2.1), (.slice x105.2.2.2.2.2.1.base x105.2.2.2.2.2.1.len x105.2.2.2.2.2.1.cap), (.int .i64 x105.2.2.2.2.2.2.1), (.slice x105.2.2.2.2.2.2.2.1.base x105.2.2.2.2.2.2.2.1.len x105.2.2.2.2.2.2.2.1.cap)]⟩), (.agg ⟨[(.int .i64 0), (.int .i64 0), (.slice none 0 0), (.slice none 0 0), (.int .i64 0), (.slice none 0 0), (.int .i64 0), (.slice none 0 0)]⟩)]⟩ w_99 fun (r107 : Bool) (w_106 : World) =>
 IfB r107
 (IfB ((r65 : Int) == (0 : Int))
 (IfB ((r68 : Int) == (2 : Int))
 (IfB ((r74 : Int) == (0 : Int))
 (Ld (.st [.int .i64, .int .i64, .sl, .sl, .int .i64, .sl, .int .i64, .sl]) (⟨b76, 0, none⟩ : Addr) w_106 fun (x108 : (TT [.int .i64, .int .i64, .sl, .sl, .int .i64, .sl, .int .i64, .sl])) =>
 Ld (.st [.int .i64, .int .i64, .sl, .sl, .int .i64, .sl, .int .i64, .sl]) (⟨b8, 0, none⟩ : Addr) w_106 fun (x109 : (TT [.int .i64, .int .i64, .sl, .sl, .int .i64, .sl, .int .i64, .sl])) =>
 Cl Tryd.prog [kB] n_script_Equal ⟨[(.agg ⟨[(.int .i64 x108.1), (.int .i64 x108.2.1), (.slice x108.2.2.1.base x108.2.2.1.len x108.2.2.1.cap), (.slice x108.2.2.2.1.base x108.2.2.2.1.len x108.2.2.2.1.cap), (.int .i64 x108.2.2.2.2.1), (.slice x108.2.2.2.2.2.1.base x108.2.2.2.2.2.1.len x108.2.2.2.2.2.1.cap), (.int .i64 x108.2.2.2.2.2.2.1), (.slice x108.2.2.2.2.2.2.2.1.base x108.2.2.2.2.2.2.2.1.len x108.2.2.2.2.2.2.2.1.cap)]⟩), (.agg ⟨[(.int .i64 x109.1), (.int .i64 x109.2.1), (.slice x109.2.2.1.base x109.2.2.1.len x109.2.2.1.cap), (.slice x109.2.2.2.1.base x109.2.2.2.1.len x109.2.2.2.1.cap), (.int .i64 x109.2.2.2.2.1), (.slice x109.2.2.2.2.2.1.base x109.2.2.2.2.2.1.len x109.2.2.2.2.2.1.cap), (.int .i64 x109.2.2.2.2.2.2.1), (.slice x109.2.2.2.2.2.2.2.1.base x109.2.2.2.2.2.2.2.1.len x109.2.2.2.2.2.2.2.1.cap)]⟩)]⟩ w_106 fun (r111 : Bool) (w_110 : World) =>
 IfB r111
 (Ld (.st [.int .i64, .int .i64, .sl, .sl, .int .i64, .sl, .int .i64, .sl]) (⟨b8, 0, none⟩ : Addr) w_110 fun (x112 : (TT [.int .i64, .int .i64, .sl, .sl, .int .i64, .sl, .int .i64, .sl])) =>
 Ld (.st [.int .i64, .int .i64, .sl, .sl, .int .i64, .sl, .int .i64, .sl]) (⟨b60, 0, none⟩ : Addr) w_110 fun (x113 : (TT [.int .i64, .int .i64, .sl, .sl, .int .i64, .sl, .int .i64, .sl])) =>
 Cl Tryd.prog [kB] n_script_Equal ⟨[(.agg ⟨[(.int .i64 x112.1), (.int .i64 x112.2.1), (.slice x112.2.2.1.base x112.2.2.1.len x112.2.2.1.cap), (.slice x112.2.2.2.1.base x112.2.2.2.1.len x112.2.2.2.1.cap), (.int .i64 x112.2.2.2.2.1), (.slice x112.2.2.2.2.2.1.base x112.2.2.2.2.2.1.len x112.2.2.2.2.2.1.cap), (.int .i64 x112.2.2.2.2.2.2.1), (.slice x112.2.2.2.2.2.2.2.1.base x112.2.2.2.2.2.2.2.1.len x112.2.2.2.2.2.2.2.1.cap)]⟩), (.agg ⟨[(.int .i64 x113.1), (.int .i64 x113.2.1), (.slice x113.2.2.1.base x113.2.2.1.len x113.2.2.1.cap), (.slice x113.2.2.2.1.base x113.2.2.2.1.len x113.2.2.2.1.cap), (.int .i64 x113.2.2.2.2.1), (.slice x113.2.2.2.2.2.1.base x113.2.2.2.2.2.1.len x113.2.2.2.2.2.1.cap), (.int .i64 x113.2.2.2.2.2.2.1), (.slice x113.2.2.2.2.2.2.2.1.base x113.2.2.2.2.2.2.2.1.len x113.2.2.2.2.2.2.2.1.cap)]⟩)]⟩ w_110 fun (r115 : Bool) (w_114 : World) =>
 IfB (!r115)
 (IfB ((r64).toList == ((ByteArray.mk #[115, 105, 122, 101, 32, 51, 48, 48, 10, 98, 117, 100, 103, 101, 116, 32, 48, 10, 119, 114, 105, 116, 101, 32, 48, 48, 102, 102, 10, 119, 114, 105, 116, 101, 32, 45, 10, 102, 108, 117, 115, 104, 10, 115, 112, 111, 105, 108, 32, 45, 51, 32, 48, 97, 10, 100, 114, 111, 112, 32, 48, 10, 98, 101, 104, 105, 110, 100, 32, 48, 49, 48, 50, 10, 114, 111, 111, 109, 32, 57, 10, 99, 117, 116, 115, 32, 49, 32, 48, 32, 55, 10])).toList)
 (Cl Tryd.prog [kStr] n_script_Hex ⟨[(.slice none 0 0)]⟩ w_114 fun (r117 : ByteArray) (w_116 : World) =>
 R (((r117).toList == ((ByteArray.mk #[45])).toList)) w_116)
 (R (false) w_114))
 (R (false) w_114))
 (R (false) w_110))
 (R (false) w_106))
 (R (false) w_106))
 (R (false) w_106))
 (R (false) w_106))
 (R (false) w_99))
 (R (false) w_99))
 (R (false) w_99))
 (R (false) w_99))
 (R (false) w_99))
 (R (false) w_99))
 (R (false) w_99))
 (R (false) w_99))
 (R (false) w_99))
 (R (false) w_99))
 (R (false) w_87))
 (R (false) w_87))
 (R (false) w_87))
 (R (false) w_87))
 (R (false) w_82))
 (R (false) w_82))
 (R (false) w_82)) fun (K_78 : World → Prop) =>
 Ld kS ((⟨b8, 0, none⟩ : Addr).add 2) w_77 fun (Deeds79 : Sl) =>
 IfB (((Deeds79.len : Int) : Int) != (3 : Int))
 (R (false) w_77)
 (Ld kS ((⟨b8, 0, none⟩ : Addr).add 3) w_77 fun (Spoils80 : Sl) =>
 IfB (((Spoils80.len : Int) : Int) != (1 : Int))
 (R (false) w_77)
 (Ld kS ((⟨b8, 0, none⟩ : Addr).add 7) w_77 fun (Cuts81 : Sl) =>
 IfB (((Cuts81.len : Int) : Int) != (3 : Int))
 (R (false) w_77)
 (K_78  w_77)))
set_option maxRecDepth 100000 in
theorem law30_wakes.ok  (R : Bool → World → Prop) (w : World) (h : law30_wakes.E  R w) : Cl Tryd.prog [kB] n_law30_wakes ⟨[]⟩ w R :=
  calls_of_eq Tryd.mix Tryd.f8 [] [kB] R 229 [.tmp 0] (by kernel_rfl) (by kernel_rfl) (by kernel_rfl) (by kernel_rfl) (by kernel_rfl)
    (.s .o (.s .o (.s .o (.s .o (.s .o (.s .o (.s .o (.s .o (.s .o (.s .o (.s .o (.j [] (.s .o (.c (.s .o .o) .o)) (.s .o .o)))))))))))))
    (by kernel_rfl) h
end Go.Proofs.YtdfalolgngnelaaDoor
/- Wk30 -/
namespace Go.Scr
/-! the same functions, for the kernel -/
def lnsF : Nat → List Nat → List (List Nat)
  | 0, _ => []
  | f + 1, t => if t = [] then [] else line t :: lnsF f (lrest t)
theorem lns_F : ∀ (f : Nat) (t : List Nat), t.length ≤ f → lns t = lnsF f t
  | 0, t, h => by
    have : t = [] := List.length_eq_zero_iff.1 (by omega)
    rw [this, lns_nil]; rfl
  | f + 1, t, h => by
    unfold lnsF
    by_cases e : t = []
    · rw [if_pos e, e, lns_nil]
    · have := lrest_lt e
      rw [if_neg e, lns_pos e, lns_F f (lrest t) (by omega)]
def wdsF : Nat → List Nat → List (List Nat)
  | 0, _ => []
  | f + 1, t => if t = [] then [] else if t.head? = some 32 then wdsF f (t.drop 1) else (t.takeWhile fun c => c != 32) :: wdsF f ((t.dropWhile fun c => c != 32).drop 1)
theorem wds_F : ∀ (f : Nat) (t : List Nat), t.length ≤ f → wds t = wdsF f t
  | 0, t, h => by
    have : t = [] := List.length_eq_zero_iff.1 (by omega)
    rw [this, wds_nil]; rfl
  | f + 1, t, h => by
    unfold wdsF
    rw [wds]
    by_cases e : t = []
    · rw [if_pos e, dif_pos e]
    · have h1 := List.length_pos_iff.2 e
      rw [if_neg e, dif_neg e, wds_F f (t.drop 1) (by rw [List.length_drop]; omega)]
      have h2 := congrArg List.length (List.takeWhile_append_dropWhile (p := fun c : Nat => c != 32) (l := t))
      rw [List.length_append] at h2
      have h3 : ((t.dropWhile fun c => c != 32).drop 1).length ≤ f := by
        rw [List.length_drop]; omega
      rw [wds_F f _ h3]
def decF : Nat → Nat → List Nat
  | 0, _ => []
  | f + 1, n => if n < 10 then [48 + n] else decF f (n / 10) ++ [48 + n % 10]
theorem dec_F : ∀ (f n : Nat), n < f → dec n = decF f n
  | 0, n, h => by omega
  | f + 1, n, h => by
    unfold decF
    rw [dec]
    by_cases e : n < 10
    · rw [if_pos e, dif_pos e]
    · rw [if_neg e, dif_neg e, dec_F f (n / 10) (by omega)]
def saysF (s : Scn) (l : List Nat) : Option Scn := saysW s (wdsF l.length l)
def playsF (s : Scn) (n : Nat) : List (List Nat) → Except Nat Scn
  | [] => .ok s
  | l :: r => match saysF s l with
    | some s' => playsF s' (n + 1) r
    | none => .error n
theorem plays_F : ∀ (l : List (List Nat)) (s : Scn) (n : Nat), plays s n l = playsF s n l
  | [], _, _ => rfl
  | l :: r, s, n => by
    have e : says s l = saysF s l := by unfold says saysF; rw [wds_F _ _ (Nat.le_refl _)]
    rw [plays, playsF, e]
    cases saysF s l with
    | none => rfl
    | some s' => exact plays_F r s' (n + 1)
/-- what a text gives -/
def playT (t : List Nat) : Except Nat Scn := playsF scn0 1 (lnsF t.length t)
theorem parse_F {t : List Nat} (h : t.length ≤ 1000) : parse t = playT t := by
  have := lns_F t.length t (Nat.le_refl _)
  have hl : (lns t).length ≤ t.length := by
    have : ∀ (f : Nat) (t : List Nat), t.length ≤ f → (lnsF f t).length ≤ t.length := by
      intro f
      induction f with
      | zero => intro t _; simp [lnsF]
      | succ f ih =>
        intro t ht
        unfold lnsF
        split
        · simp
        · rename_i e
          have h1 := lrest_lt e
          have := ih (lrest t) (by omega)
          simp only [List.length_cons]; omega
    rw [lns_F t.length t (Nat.le_refl _)]
    exact this _ _ (Nat.le_refl _)
  unfold parse playT
  rw [if_neg (by omega), plays_F, this]
end Go.Scr
namespace Go.Proofs.YtdfalolgngnelaaDoor
open Go Go.Vc Go.Scr Go.Sort
set_option linter.unusedSectionVars false
instance : DecidableEq (Except Nat Scn) := fun a b => match a, b with
  | .ok x, .ok y => if h : x = y then .isTrue (by rw [h]) else .isFalse (fun e => h (by injection e))
  | .error x, .error y => if h : x = y then .isTrue (by rw [h]) else .isFalse (fun e => h (by injection e))
  | .ok _, .error _ => .isFalse (fun e => by cases e)
  | .error _, .ok _ => .isFalse (fun e => by cases e)
def exS : Scn := { size := 300, budget := 0, deeds := [(false, [0, 255]), (false, []), (true, [])], spoils := [(-3, 10)], drop := 0, behind := [1, 2], room := 9, cuts := [1, 0, 7] }
def exT : List Nat := [115, 105, 122, 101, 32, 51, 48, 48, 10, 98, 117, 100, 103, 101, 116, 32, 48, 10, 119, 114, 105, 116, 101, 32, 48, 48, 102, 102, 10, 119, 114, 105, 116, 101, 32, 45, 10, 102, 108, 117, 115, 104, 10, 115, 112, 111, 105, 108, 32, 45, 51, 32, 48, 97, 10, 100, 114, 111, 112, 32, 48, 10, 98, 101, 104, 105, 110, 100, 32, 48, 49, 48, 50, 10, 114, 111, 111, 109, 32, 57, 10, 99, 117, 116, 115, 32, 49, 32, 48, 32, 55, 10]
def ex1 : List Nat := [35, 32, 104, 105, 10, 32, 115, 105, 122, 101, 32, 32, 51, 48, 48, 32, 10, 119, 114, 105, 116, 101, 32, 48, 48, 102, 102, 10]
def ex2 : List Nat := [10, 119, 114, 105, 116, 101, 32, 45, 10, 102, 108, 117, 115, 104, 10, 115, 112, 111, 105, 108, 32, 45, 51, 32, 48, 97, 10, 98, 101, 104, 105, 110, 100, 32, 48, 49, 10, 98, 101, 104, 105, 110, 100, 32, 48, 50, 10, 99, 117, 116, 115, 32, 49, 32, 48, 10, 99, 117, 116, 115, 32, 55, 10, 114, 111, 111, 109, 32, 57]
set_option maxRecDepth 100000
theorem pres_ok {t : List Nat} {s : Scn} (h : t.length ≤ 1000) (e : playT t = .ok s) : pres t = (s, 0, 0) := by
  unfold pres
  rw [parse_F h, e]
theorem pres_bad {t : List Nat} {n : Nat} (h : t.length ≤ 1000) (e : playT t = .error (n + 1)) : pres t = (scn0, (n : Int) + 1, 300) := by
  unfold pres
  rw [parse_F h, e]
theorem pres_ex : pres (ex1 ++ ex2) = (exS, 0, 0) := pres_ok (by decide) (by decide +kernel)
theorem pres_exT : pres exT = (exS, 0, 0) := pres_ok (by decide) (by decide +kernel)
def exB0 : List Nat := [102, 108, 117, 115, 104, 10, 10, 119, 114, 105, 116, 101, 32, 48]
theorem pres_B0 : pres exB0 = (scn0, 3, 300) := pres_bad (n := 2) (by decide) (by decide +kernel)
def exB1 : List Nat := [119, 114, 105, 116, 101, 32, 48, 70]
theorem pres_B1 : pres exB1 = (scn0, 1, 300) := pres_bad (n := 0) (by decide) (by decide +kernel)
def exB2 : List Nat := [115, 112, 111, 105, 108, 32, 49, 32, 48, 97, 48, 98]
theorem pres_B2 : pres exB2 = (scn0, 1, 300) := pres_bad (n := 0) (by decide) (by decide +kernel)
def exB3 : List Nat := [99, 117, 116, 115]
theorem pres_B3 : pres exB3 = (scn0, 1, 300) := pres_bad (n := 0) (by decide) (by decide +kernel)
def exB4 : List Nat := [115, 105, 122, 101, 32, 48, 49]
theorem pres_B4 : pres exB4 = (scn0, 1, 300) := pres_bad (n := 0) (by decide) (by decide +kernel)
theorem pres_nil : pres [] = (scn0, 0, 0) := pres_ok (by decide) (by decide +kernel)
theorem decI_F {z : Int} (f : Nat) (h : z.natAbs < f) : decI z = if z < 0 then 45 :: decF f z.natAbs else decF f z.natAbs := by
  unfold decI
  rw [dec_F f _ h]
theorem print_ex : printS exS = some exT := by
  have e : unl (linesOf exS) = exT := by
    unfold linesOf exS rowL deedL spoilL
    simp only [List.map_cons, List.map_nil, decI_F (z := 300) 301 (by decide), decI_F (z := 0) 1 (by decide), decI_F (z := -3) 4 (by decide), decI_F (z := 9) 10 (by decide), decI_F (z := 1) 2 (by decide), decI_F (z := 7) 8 (by decide)]
    decide +kernel
  have hl : (lns exT).length ≤ 1000 := by
    rw [lns_F exT.length exT (Nat.le_refl _)]
    decide +kernel
  unfold printS
  rw [if_pos, e]
  refine ⟨by decide +kernel, ?_, ?_⟩
  · rw [e]; decide
  · rw [e]; exact hl
theorem good_ex : Scr.Good exS := ⟨by decide, by decide, by decide⟩
theorem good_0 : Scr.Good scn0 := ⟨by decide, by decide, by decide⟩
section
variable {E w : World} {F : List HP}
theorem nilT {sz : Nat} : Tells F (SlT sz nS []) := fun w f _ _ => ⟨by simp, fun i hi => (by cases hi)⟩
theorem RdS.zero : RdS F [] scn0 nS nS nS nS := ⟨rfl, nilT, fun i hi => (by cases hi), nilT, nilT, nilT⟩
abbrev zS : List Value := [.int .i64 0, .int .i64 0, .slice none 0 0, .slice none 0 0, .int .i64 0, .slice none 0 0, .int .i64 0, .slice none 0 0]
/-- a text that is wrong -/
theorem bad1 {t : List Nat} {lit : ByteArray} {n : Int} {K : Int → Int → World → Prop} (h : Hp E w F) (hg : Tells F Gl) (hlit : lit = strOf t) (hb : Bt t) (hl : t.length ≤ 1000) (hp : pres t = (scn0, n, 300)) (hK : ∀ w', Hp E w' F → K n 300 w') :
    Nw 9 ⟨[.string lit]⟩ w fun b w => Cl Tryd.prog [.st ksS, kI, kI] n_script_Parse ⟨[.slice (some ⟨b, 0, none⟩) 1 1]⟩ w fun r4 r5 r6 w => Nw tySn ⟨zS⟩ w fun b8 w => StC (⟨b8, 0, none⟩ : Addr) (encs ksS r4) 0 w fun w => K r5 r6 w := by
  subst hlit
  refine Nw.mk h fun b w h => ?_
  have e : [t].flatten = t := by simp
  refine parse_c (xs := [t]) (sx := ⟨some ⟨b, 0, none⟩, 1, 1⟩) h hg.cons (.inr ⟨b, 1, 1, rfl, Nat.le_refl _, Tells.blk (xs := [vS t]) rfl (by simp)⟩) (by simp) (by rw [e]; exact hb) (by rw [e]; omega) fun ds sd ss sb sc w hd h => ?_
  rw [e, hp] at h ⊢
  have h : Hp E w F := h.drop.drop.drop.drop.drop.drop
  refine Nw.mk h fun b8 w h => ?_
  refine StC.xw h (by rfl) (by rfl) fun w h => ?_
  exact hK w h.drop
theorem Ld.ht {b i : Nat} {c : Array Value} {t : TypeId} {fr : Nat × Nat} {ks : List Sc} {K : TT ks → Prop} {x : TT ks} (hw : HoldB b c t fr w) (hx : decsO ks (c.toList.drop i) = some x) (hK : K x) : Ld (.st ks) ⟨b, i, none⟩ w K := LdS.xt (fun w' hw' => by rw [hw']; exact hw) hx hK
theorem Ld.hs {b i : Nat} {c : Array Value} {t : TypeId} {fr : Nat × Nat} {s : Sc} {K : s.T → Prop} {x : s.T} (hw : HoldB b c t fr w) (hx : c.toList[i]? = some (s.enc x)) (hK : K x) : Ld (.sc s) ⟨b, i, none⟩ w K := LdS.xb (fun w' hw' => by rw [hw']; exact hw) hx hK
/-- a scenario that was read, and what it leaves -/
theorem keep1 {b8 : Nat} {ds : List Dd} {s : Scn} {sd ss sb sc : Sl} (h : Hp E w (Blk b8 (.cells ⟨encs ksS (tS s sd ss sb sc)⟩ tySn (0, 0)) :: SnL ds s sd ss sb sc F)) (hd : ds.map (·.1) = s.deeds) (hg : Tells F Gl) :
    ∃ G, Hp E w G ∧ Tells G Gl ∧ RdS G ds s sd ss sb sc ∧ Tells G (HoldB b8 ⟨encs ksS (tS s sd ss sb sc)⟩ tySn (0, 0)) ∧ (∀ {φ : World → Prop}, Tells F φ → Tells G φ) ∧ (∀ {w : World}, Hp E w G → Hp E w F) :=
  ⟨_, h, hg.cons.cons.cons.cons.cons.cons, (RdS.own hd).cons, Tells.hb, fun ht => ht.cons.cons.cons.cons.cons.cons, fun h => h.drop.drop.drop.drop.drop.drop⟩
theorem RdS.to {G : List HP} {ds : List Dd} {s : Scn} {sd ss sb sc : Sl} (h : RdS F ds s sd ss sb sc) (ht : ∀ {φ : World → Prop}, Tells F φ → Tells G φ) : RdS G ds s sd ss sb sc :=
  ⟨h.d, ht h.td, fun i hi => ht (h.tb i hi), ht h.ts, ht h.th, ht h.tc⟩
set_option maxHeartbeats 4000000 in
theorem wakes_c {K : Bool → World → Prop} (h : Hp E w F) (hg : Tells F Gl) (hK : ∀ w', Hp E w' F → K true w') : Cl Tryd.prog [kB] n_law30_wakes ⟨[]⟩ w K := by
  refine law30_wakes.ok _ _ ?_
  unfold law30_wakes.E
  refine Nw.mk h fun b2 w h => ?_
  have ef : [ex1, ex2].flatten = ex1 ++ ex2 := by simp
  refine parse_c (xs := [ex1, ex2]) (sx := ⟨some ⟨b2, 0, none⟩, 2, 2⟩) h hg.cons (.inr ⟨b2, 2, 2, rfl, Nat.le_refl _, Tells.blk (xs := [vS ex1, vS ex2]) rfl (by simp)⟩) (by simp) (by rw [ef]; decide) (by rw [ef]; decide) fun ds sd ss sb sc w hd h => ?_
  rw [ef, pres_ex] at h hd ⊢
  dsimp only at hd
  refine Nw.mk h fun b8 w h => ?_
  refine StC.xw h (by rfl) (by rfl) fun w h => ?_
  obtain ⟨G, h, gG, rG, bG, tG, dG⟩ := keep1 h hd hg.cons
  refine bad1 (t := exB0) h gG rfl (by decide) (by decide) pres_B0 fun w h => ?_
  refine bad1 (t := exB1) h gG rfl (by decide) (by decide) pres_B1 fun w h => ?_
  refine bad1 (t := exB2) h gG rfl (by decide) (by decide) pres_B2 fun w h => ?_
  refine bad1 (t := exB3) h gG rfl (by decide) (by decide) pres_B3 fun w h => ?_
  refine bad1 (t := exB4) h gG rfl (by decide) (by decide) pres_B4 fun w h => ?_
  refine parse_c (xs := []) (sx := nS) h gG (.inl ⟨rfl, rfl⟩) (by simp) (by decide) (by decide) fun es td ts tb tc w he h => ?_
  rw [show ([] : List (List Nat)).flatten = [] from rfl, pres_nil] at h he ⊢
  dsimp only at he
  refine Nw.mk h fun b60 w h => ?_
  refine StC.xw h (by rfl) (by rfl) fun w h => ?_
  obtain ⟨M, h, gM, rM, bM, tM, dM⟩ := keep1 h he gG
  refine Ld.ht (x := tS exS sd ss sb sc) (h.tells (tM bG)) rfl ?_
  have sm : small exS := by unfold small; decide
  refine print_c h gM (rG.to tM) good_ex sm fun w h => ?_
  have pT : prT exS = exT := by unfold prT; rw [print_ex]; rfl
  have pE : prE exS = 0 := by unfold prE; rw [print_ex]; rfl
  rw [pT, pE]
  refine print_c (s := { scn0 with drop := 4611686018427387905 }) (sd := nS) (ss := nS) (sb := nS) (sc := nS) (ds := []) h gM ⟨rfl, nilT, fun i hi => (by cases hi), nilT, nilT, nilT⟩ ⟨by decide, by decide, by decide⟩ (by unfold small; decide) fun w h => ?_
  have pV : printS { scn0 with drop := 4611686018427387905 } = none := if_neg fun hh => absurd hh.1 (by decide +kernel)
  have pE2 : prE { scn0 with drop := 4611686018427387905 } = 2 := by unfold prE; rw [pV]; rfl
  rw [pE2]
  refine Nw.mk h fun b70 w h => ?_
  have ef : [exT].flatten = exT := by simp
  refine parse_c (xs := [exT]) (sx := ⟨some ⟨b70, 0, none⟩, 1, 1⟩) h gM.cons (.inr ⟨b70, 1, 1, rfl, Nat.le_refl _, Tells.blk (xs := [vS exT]) rfl (by simp)⟩) (by simp) (by rw [ef]; decide) (by rw [ef]; decide) fun qs ud us ub uc w hq h => ?_
  rw [ef, pres_exT] at h hq ⊢
  dsimp only at hq
  refine Nw.mk h fun b76 w h => ?_
  refine StC.xw h (by rfl) (by rfl) fun w h => ?_
  obtain ⟨Q, h, gQ, rQ, bQ, tQ, dQ⟩ := keep1 h hq gM.cons
  have rG := (rG.to tM).cons (A := Blk b70 _) |>.to tQ
  have rM := rM.cons (A := Blk b70 _) |>.to tQ
  have b8h := tQ ((tM bG).cons (A := Blk b70 _))
  have b60h := tQ (bM.cons (A := Blk b70 _))
  obtain ⟨l1, l2, l3, l4, l5⟩ := rG.len h
  have no : ∀ {w : World}, Hp E w Q → Hp E w F := fun h => (dG (dM (dQ h).drop)).drop
  refine Join.of (fun r => r w) ?_ fun r' hr => ?_
  · refine IfB.et rfl (IfB.et rfl ?_)
    refine Ld.hs (x := (300 : Int)) (h.tells b8h) rfl (IfB.et rfl ?_)
    have h3 : ds.length = 3 := by rw [l5]; rfl
    have d0 := rG.dk (k := 0) (by omega) (by decide)
    have d1 := rG.dk (k := 1) (by omega) (by decide)
    have d2 := rG.dk (k := 2) (by omega) (by decide)
    have B0 := rG.tb 0 (by omega)
    have B1 := rG.tb 1 (by omega)
    rw [d0] at B0
    rw [d1] at B1
    refine Ld.hs (x := sd) (h.tells b8h) rfl ?_
    refine Idx.el (n := 0) gD_len (by decide) (h.tells rG.td) rfl (by omega) fun q hq => ?_
    refine Ld.sc (s := .sl) (ds[0]'(by omega)).2 (by rw [hq 1 (by decide)]; rfl) ?_
    refine str_c (b := [0, 255]) (h.tells B0) (IfB.t (by rw [show (ByteArray.mk #[0, 255]) = strOf [0, 255] from rfl]; simp) ?_)
    refine Ld.hs (x := sd) (h.tells b8h) rfl ?_
    refine Idx.el (n := 1) gD_len (by decide) (h.tells rG.td) rfl (by omega) fun q hq => ?_
    refine Ld.sc (s := .sl) (ds[1]'(by omega)).2 (by rw [hq 1 (by decide)]; rfl) ?_
    have L1 := (h.tells B1).1
    simp only [List.length_map, Nat.mul_one] at L1
    refine IfB.et (by rw [← L1]; rfl) ?_
    refine Ld.hs (x := sd) (h.tells b8h) rfl ?_
    refine Idx.el (n := 2) gD_len (by decide) (h.tells rG.td) rfl (by omega) fun q hq => ?_
    refine Ld.sc (s := .bool) true (by rw [hq 0 (by decide)]; show some (Value.bool (ds[2]'(by omega)).1.1) = _; rw [d2]; rfl) (IfB.t rfl ?_)
    refine Ld.hs (x := ss) (h.tells b8h) rfl ?_
    refine Idx.el (n := 0) gP_len (by decide) (h.tells rG.ts) rfl (by decide) fun q hq => ?_
    refine Ld.st (ks := [.int .i64, .int .u8]) ((-3 : Int), (10 : Int), ()) (fun j hj => by rw [hq j hj]; rfl) (IfB.t (by decide) ?_)
    refine Ld.hs (x := sb) (h.tells b8h) rfl ?_
    refine str_c (b := [1, 2]) (h.tells rG.th) (IfB.t (by rw [show (ByteArray.mk #[1, 2]) = strOf [1, 2] from rfl]; simp) ?_)
    refine Ld.hs (x := sc) (h.tells b8h) rfl ?_
    have i2 : Idx sc 2 1 = Idx sc ((2 : Nat) : Int) 1 := rfl
    rw [i2]
    refine Idx.rd (xs := [(1 : Int), 0, 7].map vI) (h.tells rG.tc) (by omega) (by rw [l4]; decide) fun q hq hc => Ld.sc (s := .int .i64) (7 : Int) (by rw [hc]; rfl) (IfB.et rfl ?_)
    refine Ld.hs (x := (9 : Int)) (h.tells b8h) rfl (IfB.et rfl ?_)
    refine IfB.et rfl (IfB.et rfl (IfB.et rfl (IfB.et rfl (IfB.et rfl (IfB.et rfl (IfB.et rfl ?_))))))
    refine Ld.ht (x := tS scn0 td ts tb tc) (h.tells b60h) rfl ?_
    refine equal_c (a := scn0) (b := scn0) (td := nS) (ts := nS) (tb := nS) (tc := nS) (es := []) h rM RdS.zero good_0 good_0 (by decide) fun w h => ?_
    refine IfB.t (by decide) (IfB.et rfl (IfB.et rfl (IfB.et rfl ?_)))
    refine Ld.ht (x := tS exS ud us ub uc) (h.tells bQ) rfl ?_
    refine Ld.ht (x := tS exS sd ss sb sc) (h.tells b8h) rfl ?_
    refine equal_c h rQ rG good_ex good_ex (by decide) fun w h => ?_
    refine IfB.t (by decide) ?_
    refine Ld.ht (x := tS exS sd ss sb sc) (h.tells b8h) rfl ?_
    refine Ld.ht (x := tS scn0 td ts tb tc) (h.tells b60h) rfl ?_
    refine equal_c h rG rM good_ex good_0 (by decide) fun w h => ?_
    refine IfB.t (by decide) ?_
    refine IfB.t (show ((strOf exT).toList == (strOf exT).toList) = true by simp) ?_
    refine hex_c (s := nS) (b := []) h nilT (by decide) (by decide) fun w h => ?_
    have e : ((strOf (hexW [])).toList == (ByteArray.mk #[45]).toList) = true := by rw [show hexW [] = [45] from rfl, show (ByteArray.mk #[45]) = strOf [45] from rfl]; simp
    rw [e]
    exact hK w (no h)
  · refine Ld.hs (x := sd) (h.tells b8h) rfl (IfB.nf (by rw [l1]; rfl) ?_)
    refine Ld.hs (x := ss) (h.tells b8h) rfl (IfB.nf (by rw [l2]; rfl) ?_)
    refine Ld.hs (x := sc) (h.tells b8h) rfl (IfB.nf (by rw [l4]; rfl) ?_)
    exact hr
end
end Go.Proofs.YtdfalolgngnelaaDoor
/- Law30a -/
namespace Go.Scr
def wrB : List Nat := [119, 114, 105, 116, 101, 32]
def nlB : List Nat := [10, 98, 101, 104, 105, 110, 100, 32]
theorem hexW_len2 {b : List Nat} (h : b ≠ []) : (hexW b).length = 2 * b.length := by unfold hexW; rw [if_neg h, hexB_len]
theorem parse_hex {b : List Nat} (hb : ∀ c ∈ b, c < 256) (h0 : b ≠ []) (hl : b.length ≤ 200) : parse (wrB ++ hexW b ++ (nlB ++ hexW b)) = .ok { scn0 with deeds := [(false, b)], behind := b } := by
  obtain ⟨w1, w2, w3⟩ := hexW_ok hb
  have hlen := hexW_len2 h0
  have e : wrB ++ hexW b ++ (nlB ++ hexW b) = (sWrite ++ sps [hexW b]) ++ 10 :: (sBehind ++ sps [hexW b]) := by simp [wrB, nlB, sWrite, sBehind, sps]
  have n1 : 10 ∉ sWrite ++ sps [hexW b] := app_no (by decide) (sps_no (by simpa using w3))
  have n2 : 10 ∉ sBehind ++ sps [hexW b] := app_no (by decide) (sps_no (by simpa using w3))
  have hln : lns (wrB ++ hexW b ++ (nlB ++ hexW b)) = [sWrite ++ sps [hexW b], sBehind ++ sps [hexW b]] := by
    rw [e, lns_app n1, lns_one n2 (by simp [sBehind])]
  unfold parse
  rw [hln, if_neg]
  · have s1 := says_deed (s := scn0) (d := (false, b)) hb
    unfold deedL at s1
    simp only [Bool.false_eq_true, if_false] at s1
    rw [plays_cons s1, plays_cons (says_behind hb), plays]
    rfl
  · rw [e]
    simp only [List.length_append, List.length_cons, List.length_nil, sps, List.flatMap_cons, List.flatMap_nil, sWrite, sBehind]
    omega
end Go.Scr
namespace Go.Proofs.YtdfalolgngnelaaDoor
open Go Go.Vc Go.Scr Go.Sort
set_option linter.unusedSectionVars false
section
variable {E w : World} {F : List HP}
set_option maxRecDepth 20000
set_option maxHeartbeats 2000000 in
theorem scriptHex_c {s : Sl} {b : List Nat} {K : Bool → World → Prop} (h : Hp E w F) (hg : Tells F Gl) (hs : Tells F (SlT 1 s (b.map vB))) (hb : Bt b) (hK : ∀ w', Hp E w' F → K true w') :
    Cl Tryd.prog [kB] n_law30_ScriptHex ⟨[.slice s.base s.len s.cap]⟩ w K := by
  refine law30_ScriptHex.ok _ _ _ ?_
  unfold law30_ScriptHex.E
  have hlen : s.len = b.length := by have := (h.tells hs).1; simpa using this.symm
  refine IfB.dm (fun h1 => wakes_c h hg hK) (fun h1 => ?_)
  refine hex_c h hs hb (by omega) fun w h => ?_
  by_cases h0 : b = []
  · refine IfB.et (by rw [hlen, h0]; rfl) ?_
    have e : hexW b = [45] := by rw [h0]; rfl
    refine IfB.t (by rw [e, show (ByteArray.mk #[45]) = strOf [45] from rfl]; simp) ?_
    exact wakes_c h hg hK
  have hpos := List.length_pos_iff.2 h0
  refine IfB.ef (by omega) ?_
  have hxl := hexW_len2 h0
  have hxb := hexW_bt hb
  have hin : ∀ x ∈ hexW b, (48 ≤ x ∧ x ≤ 57) ∨ (97 ≤ x ∧ x ≤ 102) := by
    intro x hx
    unfold hexW at hx
    rw [if_neg h0] at hx
    exact hexB_in hb x hx
  refine ⟨fun i w => ∃ k : Nat, i = (k : Int) ∧ k ≤ (hexW b).length ∧ Hp E w F, fun i _ => (hexW b).length - i.toNat, ⟨0, rfl, by omega, h⟩, ?_⟩
  rintro i w ⟨k, rfl, hk, h⟩
  rw [strOf_size]
  refine IfB.dm (fun hlt => ?_) (fun hge => ?_)
  · have hlt : k < (hexW b).length := by omega
    have hx := hin (hexW b)[k] (List.getElem_mem _)
    rw [Int.toNat_natCast, strAt_of hxb hlt]
    refine Join.of (fun r => r w) (by rw [i64_id (by omega)]; exact ⟨⟨k + 1, by omega, by omega, h⟩, by (first | omega | (dsimp only; omega))⟩) fun r1 hr1 => ?_
    refine Join.of (fun r => r false w) (IfB.f rfl hr1) fun r2 hr2 => ?_
    refine ⟨by omega, by omega, ?_⟩
    rcases hx with hx | hx
    · refine IfB.dt (by omega) ⟨by omega, by omega, IfB.dt (by omega) hr2⟩
    · refine IfB.dt (by omega) ⟨by omega, by omega, IfB.df (by omega) ⟨by omega, by omega, IfB.dt (by omega) ⟨by omega, by omega, ?_⟩⟩⟩
      rw [decide_eq_true (by omega : ((hexW b)[k] : Int) ≤ 102)]
      exact hr2
  · rw [show (ByteArray.mk #[119, 114, 105, 116, 101, 32]) = strOf wrB from rfl, show (ByteArray.mk #[10, 98, 101, 104, 105, 110, 100, 32]) = strOf nlB from rfl, strOf_app, strOf_size]
    refine ⟨by show (6 : Int) + _ ≤ _; omega, ?_⟩
    refine Nw.mk h fun b13 w h => ?_
    have ef : [wrB ++ hexW b, nlB, hexW b].flatten = wrB ++ hexW b ++ (nlB ++ hexW b) := by simp
    have hbt : Bt (wrB ++ hexW b ++ (nlB ++ hexW b)) := (Bt.app (by decide) hxb).app (Bt.app (by decide) hxb)
    have hpr : pres (wrB ++ hexW b ++ (nlB ++ hexW b)) = ({ scn0 with deeds := [(false, b)], behind := b }, 0, 0) := by
      unfold pres
      rw [parse_hex hb h0 (by omega)]
    refine parse_c (xs := [wrB ++ hexW b, nlB, hexW b]) (sx := ⟨some ⟨b13, 0, none⟩, 3, 3⟩) h hg.cons (.inr ⟨b13, 3, 3, rfl, Nat.le_refl _, Tells.blk (xs := [vS (wrB ++ hexW b), vS nlB, vS (hexW b)]) rfl (by simp)⟩) (by simp) (by rw [ef]; exact hbt)
      (by rw [ef]; simp only [List.length_append, wrB, nlB, List.length_cons, List.length_nil]; omega) fun ds sd ss sb sc w hd h => ?_
    rw [ef, hpr] at h hd ⊢
    dsimp only at hd
    refine Nw.mk h fun b19 w h => ?_
    refine StC.xw h (by rfl) (by rfl) fun w h => ?_
    obtain ⟨G, h, gG, rG, bG, tG, dG⟩ := keep1 h hd hg.cons
    have hsG := tG (hs.cons (A := Blk b13 _))
    obtain ⟨l1, l2, l3, l4, l5⟩ := rG.len h
    have h3 : ds.length = 1 := by rw [l5]; rfl
    have d0 := rG.dk (k := 0) (by omega) (by simp)
    have B0 := rG.tb 0 (by omega)
    rw [d0] at B0
    refine Join.of (fun r => ∀ w, Hp E w G → r true w) (fun w h => hK w (dG h).drop) fun r hr => ?_
    have h := h.drew (n := w.drawn + 1)
    refine ⟨fun w => HasF E G w, HasF.mk h, ?_⟩
    refine IfB.et (by rw [i64_id (by omega)]; omega) (IfB.et rfl ?_)
    have LB : ∀ w, HasF E G w → HoldB b19 ⟨encs ksS (tS { scn0 with deeds := [(false, b)], behind := b } sd ss sb sc)⟩ tySn (0, 0) w := fun w hw => hw.tells bG
    refine LdS.xb (x := sd) LB rfl (IfB.et (by rw [l1]; rfl) ?_)
    refine LdS.xb (x := sd) LB rfl ?_
    refine Idx.elT (n := 0) gD_len (by decide) h rG.td rfl (by omega) fun q hq => ?_
    refine LdS.sc (s := .sl) (ds[0]'(by omega)).2 (fun w hw => by rw [hw.tells (hq 1 (by decide))]; rfl) ?_
    have eqb : ∀ x : List Nat, ((strOf x).toList == (strOf x).toList) = true := fun x => by simp
    have C1 : ∀ {K : ByteArray → World → Prop} {w : World}, Hp E w G → K (strOf b) w → Run Tryd.prog (convert 24 9 (.slice (ds[0]'(by omega)).2.base (ds[0]'(by omega)).2.len (ds[0]'(by omega)).2.cap)) kStr w K := fun h hK => str_c (h.tells B0) hK
    have C2 : ∀ {K : ByteArray → World → Prop} {w : World}, Hp E w G → K (strOf b) w → Run Tryd.prog (convert 24 9 (.slice s.base s.len s.cap)) kStr w K := fun h hK => str_c (h.tells hsG) hK
    have C3 : ∀ {K : ByteArray → World → Prop} {w : World}, Hp E w G → K (strOf b) w → Run Tryd.prog (convert 24 9 (.slice sb.base sb.len sb.cap)) kStr w K := fun h hK => str_c (h.tells rG.th) hK
    constructor
    · refine C1 h ⟨HasF.mk h, C2 h ⟨HasF.mk h, IfB.t (eqb b) ?_⟩⟩
      refine LdS.xb (x := sb) LB rfl ⟨?_, ?_⟩
      · refine C3 h ⟨HasF.mk h, C2 h ⟨HasF.mk h, IfB.t (eqb b) ?_⟩⟩
        exact wakes_c h gG fun w h => ⟨HasF.mk h, hr w h⟩
      · refine C2 h ⟨HasF.mk h, C3 h ⟨HasF.mk h, IfB.t (eqb b) ?_⟩⟩
        exact wakes_c h gG fun w h => ⟨HasF.mk h, hr w h⟩
    · refine C2 h ⟨HasF.mk h, C1 h ⟨HasF.mk h, IfB.t (eqb b) ?_⟩⟩
      refine LdS.xb (x := sb) LB rfl ⟨?_, ?_⟩
      · refine C3 h ⟨HasF.mk h, C2 h ⟨HasF.mk h, IfB.t (eqb b) ?_⟩⟩
        exact wakes_c h gG fun w h => ⟨HasF.mk h, hr w h⟩
      · refine C2 h ⟨HasF.mk h, C3 h ⟨HasF.mk h, IfB.t (eqb b) ?_⟩⟩
        exact wakes_c h gG fun w h => ⟨HasF.mk h, hr w h⟩
end
end Go.Proofs.YtdfalolgngnelaaDoor
/- Lift -/
namespace Go.Vc
open Go Go.RowKit Go.ChangeShapes Go.WideShapes

section
variable {H : Type} {enc : TypeId × Value → H} {P : Program} {W : World}

/-- the cells cs read as a value of type t -/
def Trd (enc : TypeId × Value → H) (P : Program) (W : World) (t : TypeId) (cs : List Value) : Prop := ∃ fuel x, DataW.trod enc P W 0 (fun _ => true) true fuel t cs = some x
theorem Trd.int {t : TypeId} {k : IntKind} {cs : List Value} (h : Trd enc P W t cs) (ht : P.underlying t = some (.int k)) : ∃ n, cs = [.int k n] ∧ (Lit.int k n).wf = true := by
  obtain ⟨m, x, h⟩ := h
  obtain ⟨n, h1, _, h2⟩ := DataW.trod_int ht h
  exact ⟨n, h1, h2⟩
theorem Trd.bool {t : TypeId} {cs : List Value} (h : Trd enc P W t cs) (ht : P.underlying t = some .bool) : ∃ b, cs = [.bool b] := by
  obtain ⟨m, x, h⟩ := h
  obtain ⟨n, h1, _⟩ := DataW.trod_bool ht h
  exact ⟨n, h1⟩
theorem Trd.string {t : TypeId} {cs : List Value} (h : Trd enc P W t cs) (ht : P.underlying t = some .string) : ∃ s : ByteArray, cs = [.string s] ∧ s.size ≤ maxLen := by
  obtain ⟨m, x, h⟩ := h
  obtain ⟨n, h1, _, h2⟩ := DataW.trod_string ht h
  exact ⟨n, h1, h2⟩
theorem cells_get {a : Addr} {n : Nat} {cs : List Value} (h : W.cells? 0 a n = some cs) : cs.length = n ∧ ∀ i (hi : i < cs.length), W.cell? (a.add i) = some cs[i] := by
  unfold World.cells? at h
  rw [if_pos (Nat.zero_le _)] at h
  have hl : cs.length = n := by simpa using mapM_some_length h
  refine ⟨hl, fun i hi => ?_⟩
  have := mapM_some_get h i i (List.getElem?_range (by omega))
  rw [this, List.getElem?_eq_getElem hi]
theorem flatten_get {α : Type} {sz : Nat} : ∀ {xs : List (List α)} (_ : ∀ x ∈ xs, x.length = sz) (i j : Nat) (hi : i < xs.length) (_ : j < sz), xs.flatten[i * sz + j]? = xs[i][j]?
  | x :: xs, h, 0, j, _, hj => by
    have hx := h x (by simp)
    rw [List.flatten_cons, List.getElem?_append_left (by omega), Nat.zero_mul, Nat.zero_add]; rfl
  | x :: xs, h, i + 1, j, hi, hj => by
    have hx := h x (by simp)
    rw [List.flatten_cons, List.getElem?_append_right (by rw [hx, Nat.succ_mul]; omega), hx, show (i + 1) * sz + j - sz = i * sz + j by rw [Nat.succ_mul]; omega,
      flatten_get (fun y hy => h y (List.mem_cons_of_mem _ hy)) i j (by simpa using hi) hj]
    rfl
theorem flat_len {α : Type} {sz : Nat} : ∀ {xs : List (List α)} (_ : ∀ x ∈ xs, x.length = sz), xs.flatten.length = xs.length * sz
  | [], _ => by simp
  | x :: xs, h => by
    rw [List.flatten_cons, List.length_append, h x (by simp), flat_len (fun y hy => h y (List.mem_cons_of_mem _ hy)), List.length_cons, Nat.succ_mul]; omega
/-- a slice that came in: its elements, each a row of cells that reads -/
theorem Trd.slice {t e : TypeId} {cs : List Value} (h : Trd enc P W t cs) (ht : P.underlying t = some (.slice e)) :
    ∃ (s : Sl) (xs : List (List Value)), cs = [.slice s.base s.len s.cap] ∧ s.len ≤ s.cap ∧ s.cap ≤ maxLen ∧ xs.length = s.len ∧ (∀ x ∈ xs, Trd enc P W e x) ∧ (∀ x ∈ xs, x.length = P.cellsOf e) ∧ SlT (P.cellsOf e) s xs.flatten W := by
  obtain ⟨m, x, h⟩ := h
  rcases DataW.trod_slice ht h with ⟨h1, _⟩ | ⟨a, len, cap, elems, rest, n, rfl, h1, _, _, hlc, hcm, hel, hget, _⟩
  · exact ⟨⟨none, 0, 0⟩, [], h1, Nat.le_refl _, Nat.zero_le _, rfl, by simp, by simp, by simp, by simp⟩
  · have hx : ∀ i, i < len → ∃ cs, W.cells? 0 (a.add (i * P.cellsOf e)) (P.cellsOf e) = some cs ∧ Trd enc P W e cs := by
      intro i hi
      have := hget i hi
      rw [List.getElem?_eq_getElem (by omega)] at this
      obtain ⟨cs, h2, h3⟩ := Option.bind_eq_some_iff.1 this
      exact ⟨cs, h2, n, _, h3⟩
    have key : ∀ k, k ≤ len → ∃ xs : List (List Value), xs.length = k ∧ ∀ i (hi : i < xs.length), W.cells? 0 (a.add (i * P.cellsOf e)) (P.cellsOf e) = some xs[i] ∧ Trd enc P W e xs[i] := by
      intro k
      induction k with
      | zero => exact fun _ => ⟨[], rfl, fun i hi => by simp at hi⟩
      | succ k ih =>
        intro hk
        obtain ⟨xs, hl, hxs⟩ := ih (by omega)
        obtain ⟨cs, h2, h3⟩ := hx k (by omega)
        refine ⟨xs ++ [cs], by simp [hl], fun i hi => ?_⟩
        by_cases hik : i < xs.length
        · rw [List.getElem_append_left hik]; exact hxs i hik
        · have : i = k := by simp [hl] at hi; omega
          subst this
          rw [List.getElem_append_right (by omega)]
          simp only [hl, Nat.sub_self, List.getElem_cons_zero]
          exact ⟨h2, h3⟩
    obtain ⟨xs, hl, hxs⟩ := key len (Nat.le_refl _)
    have hsz : ∀ x ∈ xs, x.length = P.cellsOf e := by
      intro x hx
      obtain ⟨i, hi, rfl⟩ := List.getElem_of_mem hx
      exact (cells_get (hxs i hi).1).1
    refine ⟨⟨some a, len, cap⟩, xs, h1, hlc, hcm, hl, fun x hx => ?_, hsz, ?_, fun i hi => ⟨a, rfl, ?_⟩⟩
    · obtain ⟨i, hi, rfl⟩ := List.getElem_of_mem hx
      exact (hxs i hi).2
    · rw [flat_len hsz, hl]
    · rw [flat_len hsz, hl] at hi
      have hz : 0 < P.cellsOf e := by
        rcases Nat.eq_zero_or_pos (P.cellsOf e) with h0 | h0
        · rw [h0] at hi; simp at hi
        · exact h0
      have e1 : i / P.cellsOf e * P.cellsOf e + i % P.cellsOf e = i := by rw [Nat.mul_comm]; exact Nat.div_add_mod i _
      have hq : i / P.cellsOf e < xs.length := by rw [hl]; exact (Nat.div_lt_iff_lt_mul hz).2 hi
      have hr := Nat.mod_lt i hz
      obtain ⟨c1, c2⟩ := cells_get (hxs _ hq).1
      have c3 := c2 (i % P.cellsOf e) (by omega)
      have c4 := flatten_get hsz _ _ hq hr
      have c5 : (a.add (i / P.cellsOf e * P.cellsOf e)).add (i % P.cellsOf e) = a.add i := by
        conv => rhs; rw [← e1]
        unfold Addr.add
        by_cases e1 : i / P.cellsOf e * P.cellsOf e = 0 <;> by_cases e2 : i % P.cellsOf e = 0 <;> simp [e1, e2, Nat.add_assoc]
      rw [c5] at c3
      rw [c3, ← List.getElem?_eq_getElem, ← c4]
      simp only [e1]
      exact List.getElem?_eq_getElem _
/-- a struct's fields -/
theorem Trd.struct {t : TypeId} {fs : Array Field} {cs : List Value} (h : Trd enc P W t cs) (ht : P.underlying t = some (.struct fs)) : cs.length = P.cellsOf t ∧ ∀ (i : Nat) (f : Field), fs[i]? = some f → Trd enc P W f.type ((cs.drop f.offset).take (P.cellsOf f.type)) := by
  obtain ⟨m, x, h⟩ := h
  obtain ⟨xs, n, _, _, h2, h3, h4⟩ := DataW.trod_struct ht h
  refine ⟨h2, fun i f hf => ?_⟩
  have hi : i < fs.size := by
    rcases Nat.lt_or_ge i fs.size with hh | hh
    · exact hh
    · rw [Array.getElem?_eq_none hh] at hf; cases hf
  have := h4 i f hf
  rw [List.getElem?_eq_getElem (by omega)] at this
  exact ⟨n, _, this⟩
def fieldB (P : Program) (t : TypeId) (i : Nat) (ft : TypeId) (off n : Nat) : Bool := match P.underlying t with
  | some (.struct fs) => match fs[i]? with
    | some f => f.type == ft && f.offset == off && P.cellsOf ft == n
    | none => false
  | _ => false
def structB (P : Program) (t : TypeId) (n : Nat) : Bool := match P.underlying t with
  | some (.struct _) => P.cellsOf t == n
  | _ => false
theorem Trd.field {t : TypeId} {cs : List Value} (h : Trd enc P W t cs) (i : Nat) (ft : TypeId) (off n : Nat) (hf : fieldB P t i ft off n = true) : Trd enc P W ft ((cs.drop off).take n) := by
  unfold fieldB at hf
  split at hf
  · rename_i fs ht
    split at hf
    · rename_i f hfi
      simp only [Bool.and_eq_true, beq_iff_eq] at hf
      obtain ⟨⟨rfl, rfl⟩, rfl⟩ := hf
      exact (h.struct ht).2 i f hfi
    · cases hf
  · cases hf
theorem Trd.flen {t : TypeId} {cs : List Value} (h : Trd enc P W t cs) (n : Nat) (hf : structB P t n = true) : cs.length = n := by
  unfold structB at hf
  split at hf
  · rename_i fs ht
    have := (h.struct ht).1
    simp only [beq_iff_eq] at hf
    rw [this, hf]
  · cases hf
theorem Trd.array {t e : TypeId} {n : Nat} {cs : List Value} (h : Trd enc P W t cs) (ht : P.underlying t = some (.array n e)) : cs.length = P.cellsOf t ∧ ∀ i, i < n → Trd enc P W e ((cs.drop (i * P.cellsOf e)).take (P.cellsOf e)) := by
  obtain ⟨m, x, h⟩ := h
  obtain ⟨xs, n', _, _, h2, h3, h4⟩ := DataW.trod_array ht h
  refine ⟨h2, fun i hi => ?_⟩
  have := h4 i hi
  rw [List.getElem?_eq_getElem (by omega)] at this
  exact ⟨n', _, this⟩
/-- rows that are each of a form -/
theorem rows_of {α β : Type} {g : α → β} {Good : α → Prop} : ∀ {xs : List β} (_ : ∀ x ∈ xs, ∃ a, x = g a ∧ Good a), ∃ l : List α, xs = l.map g ∧ ∀ a ∈ l, Good a
  | [], _ => ⟨[], rfl, by simp⟩
  | x :: xs, h => by
    obtain ⟨a, rfl, ha⟩ := h x (by simp)
    obtain ⟨l, rfl, hl⟩ := rows_of (fun y hy => h y (List.mem_cons_of_mem _ hy))
    exact ⟨a :: l, rfl, by simpa using ⟨ha, hl⟩⟩
theorem flatten_map1 {α β : Type} {g : α → β} (l : List α) : (l.map fun a => [g a]).flatten = l.map g := by
  induction l with
  | nil => rfl
  | cons a l ih => simp [ih]
theorem wf_i64 {n : Int} (h : (Lit.int .i64 n).wf = true) : -9223372036854775808 ≤ n ∧ n ≤ 9223372036854775807 := by
  simp [Lit.wf, IntKind.min, IntKind.max, IntKind.signed, IntKind.bits] at h
  exact h
theorem wf_u8 {n : Int} (h : (Lit.int .u8 n).wf = true) : 0 ≤ n ∧ n ≤ 255 := by
  simp [Lit.wf, IntKind.min, IntKind.max, IntKind.signed, IntKind.bits] at h
  exact h
theorem wf_u32 {n : Int} (h : (Lit.int .u32 n).wf = true) : 0 ≤ n ∧ n ≤ 4294967295 := by
  simp [Lit.wf, IntKind.min, IntKind.max, IntKind.signed, IntKind.bits] at h
  exact h
theorem wf_u16 {n : Int} (h : (Lit.int .u16 n).wf = true) : 0 ≤ n ∧ n ≤ 65535 := by
  simp [Lit.wf, IntKind.min, IntKind.max, IntKind.signed, IntKind.bits] at h
  exact h
/-- a slice of bytes that came in -/
def IsBytes (W : World) (s : Sl) (b : List Nat) : Prop := SlT 1 s (b.map vB) W ∧ (∀ y ∈ b, y < 256) ∧ s.len ≤ s.cap ∧ s.cap ≤ maxLen
theorem Trd.bytes {t e : TypeId} {cs : List Value} (h : Trd enc P W t cs) (ht : P.underlying t = some (.slice e)) (he : P.underlying e = some (.int .u8)) (hc : P.cellsOf e = 1) : ∃ s b, cs = [.slice s.base s.len s.cap] ∧ IsBytes W s b := by
  obtain ⟨s, xs, h1, h2, h3, h4, h5, h6, h7⟩ := h.slice ht
  obtain ⟨l, rfl, hl⟩ := rows_of (g := fun y : Nat => [vB y]) (Good := fun y => y < 256) (xs := xs) fun x hx => by
    obtain ⟨n, rfl, hn⟩ := (h5 x hx).int he
    have := wf_u8 hn
    obtain ⟨m, rfl⟩ := Int.eq_ofNat_of_zero_le this.1
    exact ⟨m, rfl, by omega⟩
  rw [flatten_map1, hc] at h7
  exact ⟨s, l, h1, h7, hl, h2, h3⟩
/-- a slice of numbers that came in -/
theorem Trd.ints {t e : TypeId} {k : IntKind} {cs : List Value} (h : Trd enc P W t cs) (ht : P.underlying t = some (.slice e)) (he : P.underlying e = some (.int k)) (hc : P.cellsOf e = 1) :
    ∃ s, ∃ l : List Int, cs = [.slice s.base s.len s.cap] ∧ SlT 1 s (l.map (.int k)) W ∧ (∀ y ∈ l, (Lit.int k y).wf = true) ∧ s.len ≤ s.cap ∧ s.cap ≤ maxLen := by
  obtain ⟨s, xs, h1, h2, h3, h4, h5, h6, h7⟩ := h.slice ht
  obtain ⟨l, rfl, hl⟩ := rows_of (g := fun y : Int => [Value.int k y]) (Good := fun y => (Lit.int k y).wf = true) (xs := xs) fun x hx => by
    obtain ⟨n, rfl, hn⟩ := (h5 x hx).int he
    exact ⟨n, rfl, hn⟩
  rw [flatten_map1, hc] at h7
  exact ⟨s, l, h1, h7, hl, h2, h3⟩
/-- a slice of slices of bytes that came in -/
theorem Trd.chunks {t e u : TypeId} {cs : List Value} (h : Trd enc P W t cs) (ht : P.underlying t = some (.slice e)) (he : P.underlying e = some (.slice u)) (hu : P.underlying u = some (.int .u8)) (hc : P.cellsOf e = 1) (hcu : P.cellsOf u = 1) :
    ∃ s, ∃ l : List (Sl × List Nat), cs = [.slice s.base s.len s.cap] ∧ SlT 1 s (l.map fun a => .slice a.1.base a.1.len a.1.cap) W ∧ (∀ a ∈ l, IsBytes W a.1 a.2) ∧ s.len ≤ s.cap ∧ s.cap ≤ maxLen := by
  obtain ⟨s, xs, h1, h2, h3, h4, h5, h6, h7⟩ := h.slice ht
  obtain ⟨l, rfl, hl⟩ := rows_of (g := fun a : Sl × List Nat => [Value.slice a.1.base a.1.len a.1.cap]) (Good := fun a => IsBytes W a.1 a.2) (xs := xs) fun x hx => by
    obtain ⟨s, b, rfl, hb⟩ := (h5 x hx).bytes he hu hcu
    exact ⟨(s, b), rfl, hb⟩
  rw [flatten_map1, hc] at h7
  exact ⟨s, l, h1, h7, hl, h2, h3⟩

/-! arguments -/
def Arg (enc : TypeId × Value → H) (P : Program) (W : World) (t : TypeId) (v : Value) : Prop := (∃ base, Value.okWide P W .any base t v) ∧ Trd enc P W t v.cells.toList
def ArgL (enc : TypeId × Value → H) (P : Program) (W : World) : List TypeId → List Value → Prop
  | [], vs => vs = []
  | t :: ts, vs => ∃ v vs', vs = v :: vs' ∧ Arg enc P W t v ∧ ArgL enc P W ts vs'
theorem Arg.one {t : TypeId} {v : Value} (h : Arg enc P W t v) (hv : v.cells.toList = [v]) : Trd enc P W t [v] := by
  have := h.2
  rwa [hv] at this
theorem Arg.slice {t e : TypeId} {v : Value} (h : Arg enc P W t v) (ht : P.underlying t = some (.slice e)) : Trd enc P W t [v] := by
  obtain ⟨base, hb⟩ := h.1
  obtain ⟨a, l, c, rfl⟩ := okWide_slice ht hb
  exact h.one rfl
theorem Arg.bytes {t e : TypeId} {v : Value} (h : Arg enc P W t v) (ht : P.underlying t = some (.slice e)) (he : P.underlying e = some (.int .u8)) (hc : P.cellsOf e = 1) : ∃ s b, v = .slice s.base s.len s.cap ∧ IsBytes W s b := by
  obtain ⟨s, b, h1, h2⟩ := (h.slice ht).bytes ht he hc
  exact ⟨s, b, by simpa using h1, h2⟩
theorem Arg.ints {t e : TypeId} {k : IntKind} {v : Value} (h : Arg enc P W t v) (ht : P.underlying t = some (.slice e)) (he : P.underlying e = some (.int k)) (hc : P.cellsOf e = 1) :
    ∃ s, ∃ l : List Int, v = .slice s.base s.len s.cap ∧ SlT 1 s (l.map (.int k)) W ∧ (∀ y ∈ l, (Lit.int k y).wf = true) ∧ s.len ≤ s.cap ∧ s.cap ≤ maxLen := by
  obtain ⟨s, l, h1, h2⟩ := (h.slice ht).ints ht he hc
  exact ⟨s, l, by simpa using h1, h2⟩
theorem Arg.chunks {t e u : TypeId} {v : Value} (h : Arg enc P W t v) (ht : P.underlying t = some (.slice e)) (he : P.underlying e = some (.slice u)) (hu : P.underlying u = some (.int .u8)) (hc : P.cellsOf e = 1) (hcu : P.cellsOf u = 1) :
    ∃ s, ∃ l : List (Sl × List Nat), v = .slice s.base s.len s.cap ∧ SlT 1 s (l.map fun a => .slice a.1.base a.1.len a.1.cap) W ∧ (∀ a ∈ l, IsBytes W a.1 a.2) ∧ s.len ≤ s.cap ∧ s.cap ≤ maxLen := by
  obtain ⟨s, l, h1, h2⟩ := (h.slice ht).chunks ht he hu hc hcu
  exact ⟨s, l, by simpa using h1, h2⟩
theorem Arg.int {t : TypeId} {k : IntKind} {v : Value} (h : Arg enc P W t v) (ht : P.underlying t = some (.int k)) : ∃ n, v = .int k n ∧ (Lit.int k n).wf = true := by
  obtain ⟨base, hb⟩ := h.1
  obtain ⟨n, rfl⟩ := okWide_int ht hb
  obtain ⟨m, h1, h2⟩ := (h.one rfl).int ht
  cases h1
  exact ⟨n, rfl, h2⟩
theorem Arg.string {t : TypeId} {v : Value} (h : Arg enc P W t v) (ht : P.underlying t = some .string) : ∃ s : ByteArray, v = .string s ∧ s.size ≤ maxLen := by
  obtain ⟨base, hb⟩ := h.1
  obtain ⟨n, rfl⟩ := okWide_string ht hb
  obtain ⟨m, h1, h2⟩ := (h.one rfl).string ht
  cases h1
  exact ⟨n, rfl, h2⟩
theorem Arg.struct {t : TypeId} {fs : Array Field} {v : Value} (h : Arg enc P W t v) (ht : P.underlying t = some (.struct fs)) : ∃ cs, v = .agg cs ∧ Trd enc P W t cs.toList := by
  obtain ⟨base, hb⟩ := h.1
  obtain ⟨cs, rfl, _⟩ := okWide_struct ht hb
  exact ⟨cs, rfl, h.2⟩
theorem argL_of : ∀ {ts : List TypeId} {vs : List Value} {ds : List (DataW H)} {ps : List MemPlace}, DataW.TrodAll enc P W 0 (fun _ => true) true ts vs ds ps → (∀ (j : Nat) t v, ts[j]? = some t → vs[j]? = some v → ∃ base, Value.okWide P W .any base t v) → ArgL enc P W ts vs
  | [], [], [], _, _, _ => rfl
  | t :: ts, v :: vs, d :: ds, ps, h, hv => by
    obtain ⟨p, q, ⟨fuel, h1⟩, h2, _⟩ := h
    exact ⟨v, vs, rfl, ⟨hv 0 t v rfl rfl, fuel, _, h1⟩, argL_of h2 fun j t' v' a b => hv (j + 1) t' v' a b⟩
theorem trodAll_len : ∀ {ts : List TypeId} {vs : List Value} {ds : List (DataW H)} {ps : List MemPlace}, DataW.TrodAll enc P W 0 (fun _ => true) true ts vs ds ps → ds.length = ts.length
  | [], [], [], _, _ => rfl
  | _ :: _, _ :: _, _ :: _, _, h => by
    obtain ⟨p, q, _, h2, _⟩ := h
    simp [trodAll_len h2]
theorem below_trodAll (hl : laidOutB P = true) {W' : World} (hb : Below W.heap.size W W') : ∀ {ts : List TypeId} {vs : List Value} {ds : List (DataW H)} {ps : List MemPlace}, DataW.TrodAll enc P W 0 (fun _ => true) true ts vs ds ps →
    (∀ t ∈ ts, P.readableRec t = true ∧ t < P.types.size) → ∃ qs, DataW.TrodAll enc P W' 0 (fun b => decide (b < W.heap.size)) true ts vs ds qs
  | [], [], [], _, _, _ => ⟨[], rfl⟩
  | t :: ts, v :: vs, d :: ds, ps, h, hr => by
    obtain ⟨p, q, h1, h2, _⟩ := h
    obtain ⟨qs, h3⟩ := below_trodAll hl hb h2 fun t ht => hr t (List.mem_cons_of_mem _ ht)
    obtain ⟨ht1, ht2⟩ := hr t (by simp)
    have hlt : ∀ x ∈ p, x.block < W.heap.size := by obtain ⟨m, hm⟩ := h1; exact DataW.trod_lt m _ _ _ hm
    exact ⟨_, p, qs, Below.trod hl ht1 ht2 h1 hb hlt, h3, rfl⟩
/-- a law that returns true and turns nothing that was there, whatever its arguments -/
theorem law_lift {C : Checked} {os : Os} {f : FuncId} {fn : Func} {s : ChangeSpec} {conds : List PathCond} {tb : TypeId}
    (own : ownKnob C.prog.godebug = none) (started : os.Started) (noInit : C.prog.inits.idxOf? f = none) (hfn : C.prog.funcs[f]? = some fn)
    (witness : ∃ (w : World) (tape : Tape) (i : Input), w.os = os ∧ (w.forCall tape i).Shaped C.prog ∧ i.vars = [] ∧ Input.okWide C.prog (w.forCall tape i) .any w.heap.size f i ∧
      s.pre6 enc C.prog fn conds false (w.forCall tape i).memory i.args ∧ ({} : Assume).holds C.prog (lone (Frame.enter C.prog f i.args .normal) [] (w.forCall tape i)))
    (hvars : s.vars = []) (hres : fn.resultTypes = #[tb]) (htb : C.prog.underlying tb = some .bool)
    (hspec : ∀ ds : List (DataW H), ds.length = fn.params.toList.length → s.fn H ds = { results := [.lit (.bool true)], args := ds })
    (laid : laidOutB C.prog = true) (hr : fn.params.toList.all (fun t => C.prog.readableRec t && decide (t < C.prog.types.size)) = true)
    (contract : ∀ (W : World) (args : Array Value) (ds : List (DataW H)), ArgL enc C.prog W fn.params.toList args.toList → (DataW.weightsEach C.prog fn.params.toList ds).all (· ≤ reachBytes) = true →
      Cl C.prog [kB] f args W (fun b w' => b = true ∧ Below W.heap.size W w')) :
    ReturnsInHanded {} C os f .any (s.pre6 enc C.prog fn conds false) (s.post enc C.prog fn false true false false) := by
  refine returnsInHanded_of_change_sized own started noInit hfn witness ?_
  intro W base args ds gs before hval hW _ hz _
  have hW' := hW
  obtain ⟨p, q, hA, hV, rfl, hfz, hnd⟩ := hW
  rw [hvars] at hV
  obtain ⟨rfl, rfl⟩ := trodVars_none hV
  have hlen := trodAll_len hA
  have hz' : (DataW.weightsEach C.prog fn.params.toList ds).all (· ≤ reachBytes) = true := by
    have e : s.plain.varTypes C.prog = [] := by
      simp [DataSpec.varTypes, ChangeSpec.plain, hvars]
    rw [e, List.append_nil, List.append_nil] at hz
    exact hz
  have hargs := argL_of (vs := args.toList) hA fun j t v ht hv => ⟨base, hval j t v (by simpa using ht) (by simpa using hv)⟩
  refine Calls.mono (contract W args ds hargs hz') fun e W' hp => ?_
  cases e with
  | returned v =>
    obtain ⟨b, hv, hb, bel⟩ := Ki.dec_sound (k := kB) hp
    subst hb
    have hv : v = .bool true := hv
    subst hv
    have hsp := hspec ds hlen
    obtain ⟨qs, hq⟩ := below_trodAll laid bel hA fun t ht => by
      have := List.all_eq_true.1 hr t ht
      simpa using this
    refine ⟨_, rfl, ds, [], _, [], qs, [], hW', ?_, ?_, ?_, bel.frame _, fun h => by cases h⟩
    · rw [List.append_nil, hsp, hres]
      exact trodAll_mk1 (shut_bool htb _)
    · rw [List.append_nil, hsp]; exact hq
    · rw [hvars]
      have : (s.fn H (ds ++ [])).vars = [] := by rw [List.append_nil, hsp]
      rw [this]; rfl
  | _ => exact absurd hp (by intro h; exact h)
end
end Go.Vc
/- ScL -/
namespace Go.Proofs.YtdfalolgngnelaaDoor
open Go Go.Vc Go.RowKit Go.ChangeShapes Go.WideShapes Go.ChangeAt Go.WideMaps Go.WideElems
set_option maxRecDepth 100000
theorem own : ownKnob Tryd.prog.godebug = none := by kernel_rfl
theorem laidOut : laidOutB Tryd.prog = true := by kernel_rfl
theorem starS : "*" ++ "errors.errorString" = "*errors.errorString" := by decide
theorem rowES (u : TypeId) (h : Tryd.prog.typeName? 3 u = some "*errors.errorString") : u = 135 :=
  typeName_ptr_named (nm := "errors.errorString") (by rw [starS]; kernel_rfl) (by kernel_rfl) (by decide) u (by rw [starS]; exact h)
/-- what the library's variables hold -/
theorem gl_of {W : World} (h : laidMet Tryd.prog Rows.scriptHexRow.laid W) (hs : W.ShapedOpen Tryd.prog) : Gl W := by
  refine ⟨?_, ?_, ?_, ?_⟩
  · exact cell_of_shapedOpen_int (t := 3) hs (by rw [show Tryd.prog.globals.size = 6 by kernel_rfl]; decide) (show _ = some (#[.int .i64 0], 3) by kernel_rfl) rfl (by kernel_rfl) (by kernel_rfl) (by kernel_rfl)
  · have h1 := h.filter (fun x => x.1 == "internal/strconv.uint64pow10")
    have e : Rows.scriptHexRow.laid.filter (fun x => x.1 == "internal/strconv.uint64pow10") = [("internal/strconv.uint64pow10", Lib.tabData .u64 Lib.pow10Tab)] := by rfl
    rw [e] at h1
    exact Lib.tabIs_of_head (g := 1) (by kernel_rfl) (by kernel_rfl) Tryd.underlying120 (by kernel_rfl) (by kernel_rfl) (by kernel_rfl) h1
  · have h1 := h.filter (fun x => x.1 == "strconv.ErrSyntax")
    have e : Rows.scriptHexRow.laid.filter (fun x => x.1 == "strconv.ErrSyntax") = [("strconv.ErrSyntax", Rows.laid_strconv_ErrSyntax)] := by rfl
    rw [e] at h1
    have hg : Tryd.prog.globalNamed "strconv.ErrSyntax" = some 2 := by kernel_rfl
    obtain ⟨a0, s0, hv0, -, -, -⟩ := laid_sentinel h1 hg (show _ = some 65 by kernel_rfl) Tryd.underlying65 rowES Tryd.underlying135 Tryd.underlying137 rfl rfl Tryd.underlying9 (by kernel_rfl) (by kernel_rfl)
    exact ⟨_, by have h0 := World.var?_cell hg hv0 0; simpa using h0, .inr ⟨_, _, rfl⟩⟩
  · have h1 := h.filter (fun x => x.1 == "strconv.ErrRange")
    have e : Rows.scriptHexRow.laid.filter (fun x => x.1 == "strconv.ErrRange") = [("strconv.ErrRange", Rows.laid_strconv_ErrRange)] := by rfl
    rw [e] at h1
    have hg : Tryd.prog.globalNamed "strconv.ErrRange" = some 3 := by kernel_rfl
    obtain ⟨a0, s0, hv0, -, -, -⟩ := laid_sentinel h1 hg (show _ = some 65 by kernel_rfl) Tryd.underlying65 rowES Tryd.underlying135 Tryd.underlying137 rfl rfl Tryd.underlying9 (by kernel_rfl) (by kernel_rfl)
    exact ⟨_, by have h0 := World.var?_cell hg hv0 0; simpa using h0, .inr ⟨_, _, rfl⟩⟩
/-- the door's own heap meets the condition -/
theorem door_met (os : Os) (args : Array Value) : laidMetH Tryd.prog Rows.scriptHexRow.laid ((World.doorLaid Tryd.prog 62 os).forCall (fun _ _ => 0) ⟨#[], args, []⟩).memory :=
  laidMetH_of_parts3 (fuel := 8) (laidMet_of_run' 8 (by kernel_rfl) (by kernel_rfl)) (by kernel_rfl) (by kernel_rfl)
section
variable {H : Type} {enc : TypeId × Value → H}
/-- a law that returns true and turns nothing that was there, with the library's variables as laid -/
theorem law_lift_laid {os : Os} {f : FuncId} {fn : Func} {s : ChangeSpec} {tb : TypeId}
    (started : os.Started) (noInit : Tryd.prog.inits.idxOf? f = none) (hfn : Tryd.prog.funcs[f]? = some fn)
    (witness : ∃ (w : World) (tape : Tape) (i : Input), w.os = os ∧ (w.forCall tape i).Shaped Tryd.checked.prog ∧ i.vars = [] ∧ Input.okWide Tryd.checked.prog (w.forCall tape i) .any w.heap.size f i ∧
      ((s.pre enc Tryd.checked.prog fn [] false (w.forCall tape i).memory i.args ∧ laidMetH Tryd.checked.prog Rows.scriptHexRow.laid (w.forCall tape i).memory) ∧ sizedMet enc Tryd.checked.prog fn (OpenSpec.ofChange s) false (w.forCall tape i).memory i.args) ∧ ({} : Assume).holds Tryd.checked.prog (lone (Frame.enter Tryd.checked.prog f i.args .normal) [] (w.forCall tape i)))
    (hvars : s.vars = []) (hres : fn.resultTypes = #[tb]) (htb : Tryd.prog.underlying tb = some .bool)
    (hspec : ∀ ds : List (DataW H), ds.length = fn.params.toList.length → s.fn H ds = { results := [.lit (.bool true)], args := ds })
    (hr : fn.params.toList.all (fun t => Tryd.prog.readableRec t && decide (t < Tryd.prog.types.size)) = true)
    (contract : ∀ (W : World) (args : Array Value) (ds : List (DataW H)), ArgL enc Tryd.prog W fn.params.toList args.toList → (DataW.weightsEach Tryd.prog fn.params.toList ds).all (· ≤ reachBytes) = true → Gl W →
      Cl Tryd.prog [kB] f args W (fun b w' => b = true ∧ Below W.heap.size W w')) :
    ReturnsInHanded {} Tryd.checked os f .any (fun w args => (s.pre enc Tryd.prog fn [] false w args ∧ laidMetH Tryd.prog Rows.scriptHexRow.laid w) ∧ sizedMet enc Tryd.prog fn (OpenSpec.ofChange s) false w args) (s.post enc Tryd.prog fn false true false false) := by
  refine returnsInHanded_of_calls (C := Tryd.checked) own started noInit witness ?_
  intro w tape i _ hsh _ hok hpre _
  obtain ⟨_, _, _, fn', hfn', _, _, _, _, hval⟩ := hok
  have e : fn' = fn := Option.some.inj (hfn'.symm.trans hfn)
  subst e
  obtain ⟨⟨⟨ds, gs, before, hw, hc⟩, hX⟩, hz⟩ := hpre
  have hW := DataW.Whole.of_heap (w' := w.forCall tape i) (by rfl) hw
  have hzz := hz.weights hw
  have hX : laidMet Tryd.prog Rows.scriptHexRow.laid (w.forCall tape i) := by
    rw [MakeChecks.laidMetH_plain _ _ _ (by kernel_rfl)] at hX
    exact hX.of_heap (by rfl)
  have hgl := gl_of hX hsh
  generalize hWW : w.forCall tape i = W at hW hval hgl ⊢
  have hW' := hW
  obtain ⟨p, q, hA, hV, rfl, hfz, hnd⟩ := hW
  rw [hvars] at hV
  obtain ⟨rfl, rfl⟩ := trodVars_none hV
  have hlen := trodAll_len hA
  have hz' : (DataW.weightsEach Tryd.prog fn'.params.toList ds).all (· ≤ reachBytes) = true := by
    have e : s.plain.varTypes Tryd.checked.prog = [] := by
      simp [DataSpec.varTypes, ChangeSpec.plain, hvars]
    have hzz : (DataW.weightsEach Tryd.checked.prog (fn'.params.toList ++ s.plain.varTypes Tryd.checked.prog) (ds ++ [])).all (· ≤ reachBytes) = true := hzz
    rw [e, List.append_nil, List.append_nil] at hzz
    exact hzz
  have hargs := argL_of (vs := i.args.toList) hA fun j t v ht hv => ⟨_, hval j t v (by simpa using ht) (by simpa using hv)⟩
  refine Calls.mono (contract W i.args ds hargs hz' hgl) fun e W' hp => ?_
  cases e with
  | returned v =>
    obtain ⟨b, hv, hb, bel⟩ := Ki.dec_sound (k := kB) hp
    subst hb
    have hv : v = .bool true := hv
    subst hv
    have hsp := hspec ds hlen
    obtain ⟨qs, hq⟩ := below_trodAll laidOut bel hA fun t ht => by
      have := List.all_eq_true.1 hr t ht
      simpa using this
    refine ChangeSpec.post_blind ⟨ds, [], _, [], qs, [], hW', ?_, ?_, ?_, bel.frame _, fun h => by cases h⟩
    · rw [List.append_nil, hsp, hres]
      exact trodAll_mk1 (shut_bool htb _)
    · rw [List.append_nil, hsp]; exact hq
    · rw [hvars]
      have : (s.fn H (ds ++ [])).vars = [] := by rw [List.append_nil, hsp]
      rw [this]; rfl
  | _ => exact absurd hp (by intro h; exact h)
end
end Go.Proofs.YtdfalolgngnelaaDoor
/- Law30b -/
namespace Go.Proofs.YtdfalolgngnelaaDoor
open Go Go.Vc Go.Scr Go.Sort
set_option linter.unusedSectionVars false
/-- a flush holds no bytes -/
def nrm (d : Dd) : Dd := if d.1.1 then ((true, []), nS) else d
theorem nrm1 (d : Dd) : (nrm d).1 = if d.1.1 then (true, []) else d.1 := by unfold nrm; split <;> rfl
theorem good_norm {s : Scn} (h : Scr.Good s) : Scr.Good (norm s) := by
  refine ⟨fun d hd => ?_, h.spoils, h.behind⟩
  unfold norm at hd
  simp only [List.mem_map] at hd
  obtain ⟨e, he, rfl⟩ := hd
  split
  · intro c hc; cases hc
  · exact h.deeds e he
theorem small_norm {s : Scn} (h : small s) : small (norm s) := by
  obtain ⟨h1, h2, h3, h4⟩ := h
  refine ⟨by unfold norm; simp only [List.length_map]; exact h1, ?_, h3, h4⟩
  have key : ∀ l : List (Bool × List Nat), ((l.map fun d => if d.1 then (true, []) else d).map fun d => d.2.length).sum ≤ (l.map fun d => d.2.length).sum := by
    intro l
    induction l with
    | nil => simp
    | cons d l ih =>
      simp only [List.map_cons, List.sum_cons]
      split
      · simp only [List.length_nil]; omega
      · omega
  have := key s.deeds
  show s.behind.length + ((s.deeds.map fun d => if d.1 then (true, []) else d).map fun d => d.2.length).sum ≤ 150
  omega
section
variable {E w : World} {F : List HP}
set_option maxRecDepth 20000
theorem RdS.norm {G : List HP} {ds : List Dd} {s : Scn} {sd ss sb sc sw : Sl} (r : RdS F ds s sd ss sb sc) (ht : ∀ {φ : World → Prop}, Tells F φ → Tells G φ) (hw : Tells G (SlT 2 sw ((ds.map nrm).flatMap gD))) : RdS G (ds.map nrm) (Scr.norm s) sw ss sb sc := by
  refine ⟨?_, hw, fun i hi => ?_, ht r.ts, ht r.th, ht r.tc⟩
  · rw [List.map_map]
    show _ = s.deeds.map fun d => if d.1 then (true, []) else d
    rw [← r.d, List.map_map]
    refine List.map_congr_left fun d _ => ?_
    simp only [Function.comp]
    exact nrm1 d
  · simp only [List.length_map] at hi
    rw [List.getElem_map]
    unfold nrm
    split
    · exact nilT
    · exact ht (r.tb i hi)
set_option maxHeartbeats 4000000 in
theorem scriptBack_c {s : Scn} {ds : List Dd} {sd ss sb sc : Sl} {at_ : Int} {K : Bool → World → Prop} (h : Hp E w F) (hg : Tells F Gl) (r : RdS F ds s sd ss sb sc) (gs : Scr.Good s) (hK : ∀ w', Hp E w' F → K true w') :
    Cl Tryd.prog [kB] n_law30_ScriptBack ⟨[.agg ⟨encs ksS (tS s sd ss sb sc)⟩, .int .i64 at_]⟩ w K := by
  refine law30_ScriptBack.ok _ _ _ _ ?_
  unfold law30_ScriptBack.E
  refine Nw.mk h fun b4 w h => ?_
  have hg := hg.cons (A := Blk b4 (.cells ⟨encs ksS (tS s sd ss sb sc)⟩ tySn (0, 0)))
  have r := r.cons (A := Blk b4 (.cells ⟨encs ksS (tS s sd ss sb sc)⟩ tySn (0, 0)))
  have hb4 : Tells (Blk b4 (.cells ⟨encs ksS (tS s sd ss sb sc)⟩ tySn (0, 0)) :: F) (HoldB b4 ⟨encs ksS (tS s sd ss sb sc)⟩ tySn (0, 0)) := Tells.hb
  have hK : ∀ w', Hp E w' (Blk b4 (.cells ⟨encs ksS (tS s sd ss sb sc)⟩ tySn (0, 0)) :: F) → K true w' := fun w' h => hK w' h.drop
  have h : Hp E w (Blk b4 (.cells ⟨encs ksS (tS s sd ss sb sc)⟩ tySn (0, 0)) :: F) := h
  generalize Blk b4 (.cells ⟨encs ksS (tS s sd ss sb sc)⟩ tySn (0, 0)) :: F = F at h hg r hb4 hK
  refine Ld.ht (x := tS s sd ss sb sc) (h.tells hb4) rfl ?_
  refine rGreat_c h r (fun w h => IfB.t rfl (wakes_c h hg hK)) (fun w h sm => IfB.f rfl ?_)
  refine Ld.ht (x := tS s sd ss sb sc) (h.tells hb4) rfl ?_
  refine print_c h hg r gs sm fun w h => ?_
  cases hp : printS s with
  | none =>
    have e1 : prE s = 2 := by unfold prE; rw [hp]; rfl
    have e2 : prT s = [] := by unfold prT; rw [hp]; rfl
    rw [e1, e2]
    refine IfB.t rfl (IfB.et rfl (IfB.t (show ((strOf []).toList == (strOf []).toList) = true by simp) ?_))
    exact wakes_c h hg hK
  | some t =>
    have e1 : prE s = 0 := by unfold prE; rw [hp]; rfl
    have e2 : prT s = t := by unfold prT; rw [hp]; rfl
    have e1n : prE (Scr.norm s) = 0 := by unfold prE; rw [print_norm, hp]; rfl
    have e2n : prT (Scr.norm s) = t := by unfold prT; rw [print_norm, hp]; rfl
    rw [e1, e2]
    have hlim : t.length ≤ 65536 := by
      unfold printS at hp
      split at hp
      · rename_i hc
        injection hp with hp
        rw [← hp]; exact hc.2.1
      · cases hp
    have htb : Bt t := by
      unfold printS at hp
      split at hp
      · injection hp with hp
        rw [← hp]; exact linesOf_bt gs
      · cases hp
    have hpr : pres t = (Scr.norm s, 0, 0) := by
      unfold pres
      rw [parse_print gs hp]
    refine IfB.f rfl ?_
    rw [strOf_size]
    refine Join.of (fun r => ∀ (bo : Nat) (es : List Dd) (td ts tb tc : Sl) (w : World), es.map (·.1) = (Scr.norm s).deeds → Hp E w (Blk bo (.cells ⟨encs ksS (tS (Scr.norm s) td ts tb tc)⟩ tySn (0, 0)) :: SnL es (Scr.norm s) td ts tb tc F) → r ⟨bo, 0, none⟩ 0 0 w) (fun bo es td ts tb tc w he h => ?_) fun r' hr => ?_
    · obtain ⟨G, h, gG, rG, bG, tG, dG⟩ := keep1 h he hg
      refine Ld.ht (x := tS (Scr.norm s) td ts tb tc) (h.tells bG) rfl ?_
      refine print_c h gG rG (good_norm gs) (small_norm sm) fun w h => ?_
      rw [e1n, e2n]
      refine Ld.ht (x := tS s sd ss sb sc) (h.tells (tG hb4)) rfl ?_
      refine Nw.mk h fun b56 w h => ?_
      refine StC.xw h (by rfl) (by rfl) fun w h => ?_
      refine St.xb h (by show 2 < 8; decide) rfl fun w h => ?_
      have h : Hp E w (OwnS 2 nS (((ds.take 0).map nrm).flatMap gD) :: Blk b56 (.cells ⟨encs ksS (tS s nS ss sb sc)⟩ tySn (0, 0)) :: G) := h.ownNil 2
      have hdl : ds.length = s.deeds.length := by rw [← r.d, List.length_map]
      obtain ⟨n1, n2, n3, n4⟩ := id sm
      refine ⟨fun i w => ∃ (k : Nat) (sw : Sl), i = (k : Int) ∧ k ≤ ds.length ∧ Hp E w (OwnS 2 sw (((ds.take k).map nrm).flatMap gD) :: Blk b56 (.cells ⟨encs ksS (tS s sw ss sb sc)⟩ tySn (0, 0)) :: G), fun i _ => ds.length - i.toNat,
        ⟨0, nS, rfl, by omega, h⟩, ?_⟩
      rintro i w ⟨k, sw, rfl, hk, h⟩
      have hsd : sd.len = ds.length := by have := (h.tells (tG r.td).cons.cons).1; rw [fm_len gD_len] at this; omega
      refine Ld.hs (x := sd) (h.tells (tG hb4).cons.cons) rfl ?_
      refine IfB.dm (fun hlt => ?_) (fun hge => ?_)
      · have hlt : k < ds.length := by omega
        refine Join.of (fun r => ∀ w, (∃ sw', Hp E w (OwnS 2 sw' (((ds.take (k + 1)).map nrm).flatMap gD) :: Blk b56 (.cells ⟨encs ksS (tS s sw' ss sb sc)⟩ tySn (0, 0)) :: G)) → r w) (fun w ⟨sw', h⟩ => ?_) fun r1 hr1 => ?_
        · rw [i64_id (by omega)]
          exact ⟨⟨k + 1, sw', by omega, by omega, h⟩, by (first | omega | (dsimp only; omega))⟩
        refine Ld.hs (x := sd) (h.tells (tG hb4).cons.cons) rfl ?_
        refine Idx.el gD_len (by decide) (h.tells (tG r.td).cons.cons) rfl hlt fun q hq => ?_
        refine Ld.st (ks := [.bool, .sl]) (ds[k].1.1, ds[k].2, ()) (fun j hj => by rw [hq j hj]; rfl) ?_
        refine Nw.mk h fun b69 w h => ?_
        refine StC.xw h (by rfl) (by rfl) fun w h => ?_
        refine Join.of (fun r => ∀ w, Hp E w (Blk b69 (.cells ⟨gD (nrm ds[k])⟩ 40 (0, 0)) :: OwnS 2 sw (((ds.take k).map nrm).flatMap gD) :: Blk b56 (.cells ⟨encs ksS (tS s sw ss sb sc)⟩ tySn (0, 0)) :: G) → r w) (fun w h => ?_) fun r2 hr2 => ?_
        · refine Ld.xb (x := sw) h rfl ?_
          refine Ld.xt (x := ((nrm ds[k]).1.1, (nrm ds[k]).2, ())) h rfl ?_
          have hml : ((ds.take k).map nrm).length = k := by rw [List.length_map, List.length_take]; omega
          refine app1 (x := nrm ds[k]) ty_ops gD_len (by decide) rfl (gD_scalar _) h.p1 (by rw [hml]; omega) (by rw [hml]; omega) fun s' w h _ => ?_
          refine St.xb h (by show 2 < 8; decide) rfl fun w h => ?_
          refine hr1 w ⟨s', ?_⟩
          rw [List.take_add_one, List.getElem?_eq_getElem hlt, Option.toList_some, List.map_append]
          exact h.no 1
        · refine Ld.xb (x := ds[k].1.1) h rfl ?_
          by_cases hf : ds[k].1.1 = true
          · refine IfB.t hf ?_
            refine St.xb h (by show 1 < 2; decide) rfl fun w h => ?_
            refine hr2 w ?_
            have e : gD (nrm ds[k]) = [.bool ds[k].1.1, .slice none 0 0] := by unfold nrm; rw [if_pos hf, hf]; rfl
            rw [e]; exact h
          · refine IfB.f (by simpa using hf) ?_
            refine hr2 w ?_
            have e : nrm ds[k] = ds[k] := by unfold nrm; rw [if_neg hf]
            rw [e]; exact h
      · have hkl : k = ds.length := by omega
        subst hkl
        rw [List.take_length] at h
        refine IfB.et rfl (IfB.et rfl ?_)
        refine Ld.ht (x := tS (Scr.norm s) td ts tb tc) (h.tells bG.cons.cons) rfl ?_
        refine Ld.xt (x := tS (Scr.norm s) sw ss sb sc) h rfl ?_
        have hz : sz (Scr.norm s) ≤ 10000000 := by
          obtain ⟨m1, m2, m3, m4⟩ := small_norm sm
          unfold sz; omega
        refine equal_c h rG.cons.cons (r.norm (fun ht => (tG ht).cons.cons) Tells.own) (good_norm gs) (good_norm gs) hz fun w h => ?_
        refine IfB.t (by simp) (IfB.et rfl (IfB.t (by simp) ?_))
        refine IfB.dt (by omega) ?_
        exact wakes_c h gG.cons.cons fun w h => hK w (dG h.drop.drop)
    · obtain ⟨a, ha, hal⟩ : ∃ a : Nat, (if ((t.length : Nat) : Int) < (if (0 : Int) > at_ then 0 else at_) then ((t.length : Nat) : Int) else (if (0 : Int) > at_ then 0 else at_)) = (a : Int) ∧ a ≤ t.length := by
        refine ⟨(if ((t.length : Nat) : Int) < (if (0 : Int) > at_ then 0 else at_) then ((t.length : Nat) : Int) else (if (0 : Int) > at_ then 0 else at_)).toNat, ?_, ?_⟩
        · split <;> split <;> omega
        · split <;> split <;> omega
      rw [ha]
      have h := h.drew (n := w.drawn + 1)
      refine ⟨fun _ => True, trivial, ?_⟩
      refine SlcS.of 0 a rfl rfl (Nat.zero_le _) hal ?_
      refine SlcS.of a t.length rfl rfl hal (Nat.le_refl _) ?_
      rw [List.drop_zero, List.take_length]
      have ef : [t.take a, [], t.drop a].flatten = t := by simp
      have tx : ∀ (b : Nat) (G : List HP), Txts (Blk b (.cells ⟨[vS (t.take a), vS [], vS (t.drop a)]⟩ 9 (0, 0)) :: G) ⟨some ⟨b, 0, none⟩, 3, 3⟩ [t.take a, [], t.drop a] := fun b G => .inr ⟨b, 3, 3, rfl, Nat.le_refl _, Tells.blk (xs := [vS (t.take a), vS [], vS (t.drop a)]) rfl (by simp)⟩
      refine ⟨?_, ?_⟩
      · refine Nw.mk h fun b22 w h => ⟨trivial, ?_, ?_⟩
        · refine parse_c (xs := [t.take a, [], t.drop a]) (sx := ⟨some ⟨b22, 0, none⟩, 3, 3⟩) h hg.cons (tx b22 _) (by simp) (by rw [ef]; exact htb) (by rw [ef]; omega) fun es td ts tb tc w he h => ⟨trivial, ?_⟩
          rw [ef, hpr] at h he ⊢
          refine Nw.mk h fun b28 w h => ⟨trivial, ?_⟩
          refine StC.xw h (by rfl) (by rfl) fun w h => ⟨trivial, ?_⟩
          exact hr b28 es td ts tb tc w he (h.no 6)
        · refine Nw.mk h fun b31 w h => ⟨trivial, ?_⟩
          refine parse_c (xs := [t.take a, [], t.drop a]) (sx := ⟨some ⟨b22, 0, none⟩, 3, 3⟩) h hg.cons.cons (tx b22 _).cons (by simp) (by rw [ef]; exact htb) (by rw [ef]; omega) fun es td ts tb tc w he h => ⟨trivial, ?_⟩
          rw [ef, hpr] at h he ⊢
          refine StC.xw h (by rfl) (by rfl) fun w h => ⟨trivial, ?_⟩
          exact hr b31 es td ts tb tc w he ((h.no 6).at 5)
      · refine Nw.mk h fun b38 w h => ⟨trivial, ?_⟩
        refine Nw.mk h fun b40 w h => ⟨trivial, ?_⟩
        refine parse_c (xs := [t.take a, [], t.drop a]) (sx := ⟨some ⟨b40, 0, none⟩, 3, 3⟩) h hg.cons.cons (tx b40 _) (by simp) (by rw [ef]; exact htb) (by rw [ef]; omega) fun es td ts tb tc w he h => ⟨trivial, ?_⟩
        rw [ef, hpr] at h he ⊢
        refine StC.xw h (by rfl) (by rfl) fun w h => ⟨trivial, ?_⟩
        exact hr b38 es td ts tb tc w he ((h.at 6).no 6)
end
end Go.Proofs.YtdfalolgngnelaaDoor
/- ScN -/
namespace Go.Proofs.YtdfalolgngnelaaDoor
open Go Go.Vc Go.RowKit Go.ChangeShapes Go.WideShapes Go.Scr
set_option maxRecDepth 100000
section
variable {H : Type} {enc : TypeId × Value → H} {W : World}
theorem len8 {α : Type} {l : List α} (h : l.length = 8) : ∃ a b c d e f g i, l = [a, b, c, d, e, f, g, i] := by
  match l, h with
  | [a, b, c, d, e, f, g, i], _ => exact ⟨a, b, c, d, e, f, g, i, rfl⟩
theorem len2 {α : Type} {l : List α} (h : l.length = 2) : ∃ a b, l = [a, b] := by
  match l, h with
  | [a, b], _ => exact ⟨a, b, rfl⟩
theorem flat_map' {α β : Type} {g : α → List β} (l : List α) : (l.map g).flatten = l.flatMap g := by rw [List.flatMap_def]
theorem scn_arg {v : Value} (h : Arg enc Tryd.prog W 27 v) : ∃ s ds sd ss sb sc, v = .agg ⟨encs ksS (tS s sd ss sb sc)⟩ ∧ Scr.Good s ∧ ∀ G, RdS (Old W :: G) ds s sd ss sb sc := by
  obtain ⟨base, hb⟩ := h.1
  obtain ⟨cs, rfl, _⟩ := okWide_struct Tryd.underlying27 hb
  have h : Trd enc Tryd.prog W 27 cs.toList := h.2
  have hl := h.flen 8 (by kernel_rfl)
  have f0 := h.field 0 3 0 1 (by kernel_rfl)
  have f1 := h.field 1 3 1 1 (by kernel_rfl)
  have f2 := h.field 2 22 2 1 (by kernel_rfl)
  have f3 := h.field 3 23 3 1 (by kernel_rfl)
  have f4 := h.field 4 3 4 1 (by kernel_rfl)
  have f5 := h.field 5 24 5 1 (by kernel_rfl)
  have f6 := h.field 6 3 6 1 (by kernel_rfl)
  have f7 := h.field 7 25 7 1 (by kernel_rfl)
  obtain ⟨a, b, c, d, e, f, g, i, hcs⟩ := len8 hl
  rw [hcs] at f0 f1 f2 f3 f4 f5 f6 f7
  obtain ⟨n0, e0, w0⟩ := f0.int (k := .i64) (by kernel_rfl)
  obtain ⟨n1, e1, w1⟩ := f1.int (k := .i64) (by kernel_rfl)
  obtain ⟨n4, e4, w4⟩ := f4.int (k := .i64) (by kernel_rfl)
  obtain ⟨n6, e6, w6⟩ := f6.int (k := .i64) (by kernel_rfl)
  obtain ⟨sb, bb, e5, hb5⟩ := f5.bytes (e := 5) (by kernel_rfl) (by kernel_rfl) (by kernel_rfl)
  obtain ⟨sc, cc, e7, hc7, _⟩ := f7.ints (e := 3) (k := .i64) (by kernel_rfl) (by kernel_rfl) (by kernel_rfl)
  obtain ⟨sd, xs, e2, _, _, _, hx2, hz2, hS2⟩ := f2.slice (e := 40) (by kernel_rfl)
  obtain ⟨ss, ys, e3, _, _, _, hx3, hz3, hS3⟩ := f3.slice (e := 47) (by kernel_rfl)
  have c2 : Tryd.prog.cellsOf 40 = 2 := by kernel_rfl
  have c3 : Tryd.prog.cellsOf 47 = 2 := by kernel_rfl
  obtain ⟨ds, hds, hdg⟩ := rows_of (g := gD) (Good := fun d : Dd => IsBytes W d.2 d.1.2) (xs := xs) fun x hx => by
    have hl := hz2 x hx
    rw [c2] at hl
    obtain ⟨p, q, rfl⟩ := len2 hl
    have g0 := (hx2 _ hx).field 0 4 0 1 (by kernel_rfl)
    have g1 := (hx2 _ hx).field 1 24 1 1 (by kernel_rfl)
    obtain ⟨fl, h0⟩ := g0.bool (by kernel_rfl)
    obtain ⟨sl, by1, h1, hby⟩ := g1.bytes (e := 5) (by kernel_rfl) (by kernel_rfl) (by kernel_rfl)
    simp only [List.drop_zero, List.take_succ_cons, List.take_zero, List.cons.injEq, and_true, List.drop_succ_cons] at h0 h1
    exact ⟨((fl, by1), sl), by rw [h0, h1]; rfl, hby⟩
  obtain ⟨ps, hps, hpg⟩ := rows_of (g := gP) (Good := fun d : Int × Nat => d.2 < 256) (xs := ys) fun x hx => by
    have hl := hz3 x hx
    rw [c3] at hl
    obtain ⟨p, q, rfl⟩ := len2 hl
    have g0 := (hx3 _ hx).field 0 3 0 1 (by kernel_rfl)
    have g1 := (hx3 _ hx).field 1 5 1 1 (by kernel_rfl)
    obtain ⟨n, h0, _⟩ := g0.int (k := .i64) (by kernel_rfl)
    obtain ⟨m, h1, hm⟩ := g1.int (k := .u8) (by kernel_rfl)
    simp only [List.drop_zero, List.take_succ_cons, List.take_zero, List.cons.injEq, and_true, List.drop_succ_cons] at h0 h1
    have := wf_u8 hm
    exact ⟨(n, m.toNat), by rw [h0, h1]; unfold gP; simp only; rw [Int.toNat_of_nonneg this.1], by omega⟩
  subst hds
  subst hps
  rw [c2, flat_map'] at hS2
  rw [c3, flat_map'] at hS3
  simp only [List.drop_zero, List.take_succ_cons, List.take_zero, List.cons.injEq, and_true, List.drop_succ_cons] at e0 e1 e2 e3 e4 e5 e6 e7
  refine ⟨{ size := n0, budget := n1, deeds := ds.map (·.1), spoils := ps, drop := n4, behind := bb, room := n6, cuts := cc }, ds, sd, ss, sb, sc, ?_, ⟨?_, hpg, hb5.2.1⟩, fun G => ⟨rfl, Tells.slT hS2, fun i hi => Tells.slT (hdg _ (List.getElem_mem hi)).1, Tells.slT hS3, Tells.slT hb5.1, Tells.slT hc7⟩⟩
  · have : cs = ⟨[a, b, c, d, e, f, g, i]⟩ := Array.ext' hcs
    rw [this, e0, e1, e2, e3, e4, e5, e6, e7]
  · intro d hd
    obtain ⟨x, hx, rfl⟩ := List.mem_map.1 hd
    exact (hdg x hx).2.1
end
end Go.Proofs.YtdfalolgngnelaaDoor
