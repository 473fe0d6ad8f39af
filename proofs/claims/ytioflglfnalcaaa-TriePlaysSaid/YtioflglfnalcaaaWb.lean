/- The walk of Put at Trie[int]. -/
import Derived.Test.YtioflglfnalcaaaWa
namespace Go.Proofs.Ytioflglfnalcaaa
open Go.RowKit

/-- What holds in Put's loop. -/
def PutRel (L : Lay) (w : World) (t : Nat) (T : AT) (zs : List Int) (k b : Nat) (wr : World) : Prop :=
  ∃ T' : AT, T'.N (zs.take k) = some b ∧ Rep L wr t T' ∧ T'.f = T.f ∧ T'.ps = T.ps ∧ Fr T.own w wr ∧ (∀ j, T'.own j → T.own j ∨ w.heap.size ≤ j) ∧ T.SmallTo T' zs k

theorem own_N {T : AT} {p : List Int} {b : Nat} (h : T.N p = some b) : T.own b := .inl ⟨p, h⟩
theorem own_M {T : AT} {p : List Int} {b : Nat} (h : T.M p = some b) : T.own b := .inr ⟨p, h⟩

/-- A child where there was a map. -/
theorem putrel_map {L : Lay} {w wr : World} {t : Nat} {T T' : AT} {zs : List Int} {k b m : Nat} {r : Int} {p : List Int}
    (ht : zs.take (k + 1) = p ++ [r]) (hb : T'.N p = some b) (R : Rep L wr t T') (hf : T'.f = T.f) (hps : T'.ps = T.ps) (hF : Fr T.own w wr) (ho : ∀ j, T'.own j → T.own j ∨ w.heap.size ≤ j) (hsm : T.SmallTo T' zs k) (hk : k < zs.length)
    (hn : T'.N (p ++ [r]) = none) (hm : T'.M p = some m) :
    PutRel L w t T zs (k + 1) wr.heap.size (putMap (wr.alloc (.cells #[.map none, L.z, .bool false] L.tn)) m (.map (ents 0 (T'.kids p) ++ [({ key := .int .i32 r, val := ptr wr.heap.size, born := (T'.K p).length } : MapEntry)]).toArray ((T'.K p).length + 1))) := by
  have hmlt := R.lt (own_M hm)
  have hblt := R.lt (own_N hb)
  have hbm : b ≠ m := fun e => R.ok.dis p p b hb (e ▸ hm)
  have hkl : (T'.kids p).length = (T'.K p).length := by simp [AT.kids]
  have h := rep_add (w' := (putMap (wr.alloc (.cells #[.map none, L.z, .bool false] L.tn)) m (.map (ents 0 (T'.kids p) ++ [({ key := .int .i32 r, val := ptr wr.heap.size, born := (T'.K p).length } : MapEntry)]).toArray ((T'.K p).length + 1))))
    (b := wr.heap.size) (m := m) R hb hn (Nat.le_refl _) (.inl hm) ?_ ?_ ?_ ?_
  · refine ⟨_, by rw [ht]; simp [AT.add], h, hf, hps, ?_, fun j hj => ?_, hsm.add hk ht _ _⟩
    · refine (hF.alloc _).putObj ?_ _
      rcases ho m (own_M hm) with h1 | h1
      · exact .inl h1
      · exact .inr h1
    · rcases own_add hj with h1 | rfl | rfl
      · exact ho j h1
      · exact .inr hF.size
      · exact ho j (own_M hm)
  · rw [putMap_ne _ (by omega)]; exact heap_alloc_eq _ _
  · rw [putMap_ne _ (by omega), heap_alloc_lt hblt, R.node p b hb, hm]
  · rw [putMap_eq _ (by rw [World.size_alloc]; omega), ents_append, hkl]
    simp
  · intro j hj hja hjm
    rw [putMap_ne _ (by omega), heap_alloc_lt hj]

/-- A child where there was no map. -/
theorem putrel_new {L : Lay} {w wr W : World} {t : Nat} {T T' : AT} {zs : List Int} {k b : Nat} {r : Int} {p : List Int}
    (ht : zs.take (k + 1) = p ++ [r]) (hb : T'.N p = some b) (R : Rep L wr t T') (hf : T'.f = T.f) (hps : T'.ps = T.ps) (hF : Fr T.own w wr) (ho : ∀ j, T'.own j → T.own j ∨ w.heap.size ≤ j) (hsm : T.SmallTo T' zs k) (hk : k < zs.length)
    (hn : T'.N (p ++ [r]) = none) (hm : T'.M p = none)
    (hW : W = (((wr.setCell ⟨b, 0, none⟩ (.map (some (wr.heap.size + 1)))).alloc (.cells #[.map none, L.z, .bool false] L.tn)).alloc (.map #[] 0))) :
    PutRel L w t T zs (k + 1) wr.heap.size (putMap W (wr.heap.size + 1) (.map #[{ key := .int .i32 r, val := ptr wr.heap.size, born := 0 }] 1)) := by
  have hblt := R.lt (own_N hb)
  have hK : T'.K p = [] := R.ok.mnone p hm
  have hkids : T'.kids p = [] := by simp [AT.kids, hK]
  have hs0 : (wr.setCell ⟨b, 0, none⟩ (.map (some (wr.heap.size + 1)))).heap.size = wr.heap.size := by simp
  have hs1 : ((wr.setCell ⟨b, 0, none⟩ (.map (some (wr.heap.size + 1)))).alloc (.cells #[.map none, L.z, .bool false] L.tn)).heap.size = wr.heap.size + 1 := by simp
  have hs2 : W.heap.size = wr.heap.size + 2 := by rw [hW]; simp
  have h := rep_add (w' := putMap W (wr.heap.size + 1) (.map #[{ key := .int .i32 r, val := ptr wr.heap.size, born := 0 }] 1))
    (b := wr.heap.size) (m := wr.heap.size + 1) R hb hn (Nat.le_refl _) (.inr ⟨hm, by omega, by omega⟩) ?_ ?_ ?_ ?_
  · refine ⟨_, by rw [ht]; simp [AT.add], h, hf, hps, ?_, fun j hj => ?_, hsm.add hk ht _ _⟩
    · refine Fr.putObj ?_ (.inr (by have := hF.size; omega)) _
      rw [hW]
      exact ((hF.setCell (p := ⟨b, 0, none⟩) (ho b (own_N hb)) _).alloc _).alloc _
    · rcases own_add hj with h1 | rfl | rfl
      · exact ho j h1
      · exact .inr hF.size
      · exact .inr (by have := hF.size; omega)
  · rw [putMap_ne _ (by omega), hW, heap_alloc_lt (by omega)]
    have := heap_alloc_eq (wr.setCell ⟨b, 0, none⟩ (.map (some (wr.heap.size + 1)))) (.cells #[.map none, L.z, .bool false] L.tn)
    rw [hs0] at this
    exact this
  · rw [putMap_ne _ (by omega), hW, heap_alloc_lt (by omega), heap_alloc_lt (by omega)]
    have hx := R.node p b hb
    rw [hm] at hx
    by_cases e : p = []
    · simp only [nodeObj, if_pos e] at hx ⊢
      rw [heap_set_same _ hx]; simp
    · simp only [nodeObj, if_neg e] at hx ⊢
      rw [heap_set_same _ hx]; simp
  · rw [putMap_eq _ (by omega), hkids, hK]
    rfl
  · intro j hj hja hjm
    rw [putMap_ne _ (by omega), hW, heap_alloc_lt (by omega), heap_alloc_lt (by omega), heap_set_ne _ (by exact hja)]

set_option maxHeartbeats 400000 in
set_option maxRecDepth 100000 in
theorem put_i (w : World) (t : Nat) (T : AT) (A : Option Addr) (cap : Nat) (zs : List Int) (n : Int) (R : Rep Li w t T) (hlen : zs.length ≤ 140737488351232) (hr : RdI w A zs)
    (ha : ∀ ad, A = some ad → zs ≠ [] → ¬ T.own ad.block) (hps : T.ps.length ≤ 140737488351232) :
    Calls Try.prog 14 #[ptr t, .slice A zs.length cap, .int .i64 n] w (PutPost Li w t T zs (.int .i64 n)) := by
  have hmm0 := @run_makeMap Try.prog
  have hE := fun (W : World) (r : Option Nat) => run_eql_map_nil (P := Try.prog) W 74 21 85 r Try.underlying74
  have H0 : Hid (PutRel Li w t T zs 0 t w) := ⟨T, by simpa using R.ok.root, R, rfl, rfl, Fr.refl _ _, fun j h => .inl h, AT.SmallTo.refl _ _⟩
  go_enter Try.func14, Try.ntmps14
  go_wp2
  go_loopw [7, 17] (fun p i wr => ∃ k b : Nat, k ≤ zs.length ∧ i = .int .i64 k ∧ p = ptr b ∧ Hid (PutRel Li w t T zs k b wr)) (fun _ i _ => zs.length - (intOf i).toNat)
  case atStart => exact ⟨0, t, by omega, rfl, rfl, H0⟩
  case round =>
    obtain ⟨k, b, hk, rfl, rfl, hrel⟩ := hrel
    obtain ⟨T', hb, R', hf, hp, hF, ho, hsm⟩ := hrel.out
    by_cases hlt : k < zs.length
    · obtain ⟨ab, off, rfl, hc⟩ := (hr.frame hF ha) k hlt
      have hm := (node_cells R' hb).1
      have hfr := node_free R' hb 0
      have hbl := R'.lt (own_N hb)
      have ht := take_getD hlt
      have hL := look_i R' (List.take k zs)
      generalize zs.getD k 0 = r at hc ht
      replace ht := Lib.hid ht
      have hl := hL r
      clear hL
      generalize List.take k zs = p at hb hm hl ht
      cases hx : T'.N (p ++ [r]) with
      | some b' =>
        have H1 : Hid (PutRel Li w t T zs (k + 1) b' wr) := ⟨T', by rw [ht.out]; exact hx, R', hf, hp, hF, ho, hsm.next⟩
        rw [hx] at hl
        simp only [optPtr] at hl
        clear hx hr R R' hf hp hF ho hsm hb ht H0
        generalize T'.M p = M0 at hm hl
        go_wp2
        go_roundw
        case rel => exact ⟨k + 1, b', by omega, by go_num, rfl, H1⟩
        case measure => simp [intOf]; omega
      | none =>
        rw [hx] at hl
        simp only [optPtr] at hl
        cases hmm : T'.M p with
        | some m =>
          have H1 := Lib.hid (putrel_map ht.out hb R' hf hp hF ho hsm hlt hx hmm)
          rw [hmm] at hl hm
          have hml := R'.lt (own_M hmm)
          have hmu := run_mapUpdate_new (w := wr.alloc (.cells #[.map none, Li.z, .bool false] Li.tn)) (v := ptr wr.heap.size) Try.underlying74 Try.underlying21 r (by rw [heap_alloc_lt hml]; exact R'.map p m hmm) (R'.ok.lookup_none (by rw [hb]; rfl) hx)
          clear hx hr R R' hf hp hF ho hsm hb ht H0 hmm hml
          simp only [Li] at hmu
          go_wp2
          go_roundw
          case rel => exact ⟨k + 1, _, by omega, by go_num, rfl, H1⟩
          case measure => simp [intOf]; omega
        | none =>
          have H1 := Lib.hid (putrel_new (L := Li) ht.out hb R' hf hp hF ho hsm hlt hx hmm rfl)
          rw [hmm] at hl hm
          have hmu := run_mapUpdate_new (P := Try.prog) (w := (((wr.setCell ⟨b, 0, none⟩ (.map (some (wr.heap.size + 1)))).alloc (.cells #[.map none, .int .i64 0, .bool false] 76)).alloc (.map #[] 0))) (m := wr.heap.size + 1) (c := 0) (l := []) (b := 0) (v := ptr wr.heap.size) Try.underlying74 Try.underlying21 r
            (by have := heap_alloc_eq ((wr.setCell ⟨b, 0, none⟩ (.map (some (wr.heap.size + 1)))).alloc (.cells #[.map none, .int .i64 0, .bool false] 76)) (.map #[] 0); rw [World.size_alloc, World.size_setCell] at this; exact this) rfl
          simp only [ents, List.nil_append] at hmu
          clear hx hr R R' hf hp hF ho hsm hb ht H0 hmm
          simp only [Li] at H1
          go_wp2
          go_roundw
          case rel => exact ⟨k + 1, _, by omega, by go_num, rfl, H1⟩
          case measure => simp [intOf]; omega
    · have e : k = zs.length := by omega
      subst e
      have hb' := hb
      rw [List.take_length] at hb'
      obtain ⟨h0, h1, h2⟩ := node_cells R' hb'
      have f1 := node_free R' hb' 1
      have f2 := node_free R' hb' 2
      have f3 := node_free R' R'.ok.root 3
      have h3 := root_cell R'
      rw [hp] at h3
      have hFx : ∀ (W : World), W = ((wr.setCell ⟨b, 1, none⟩ (.int .i64 n)).setCell ⟨b, 2, none⟩ (.bool true)) → Fr T.own w W := fun W hW => by
        subst hW
        exact (hF.setCell (p := ⟨b, 1, none⟩) (ho b (own_N hb)) _).setCell (p := ⟨b, 2, none⟩) (ho b (own_N hb)) _
      have hsmm : ∀ D m, T.Small D m → zs.length ≤ D → T'.Small D (m + 1) := fun D m h1 h2 => ⟨(hsm.1 D m h1 h2).1, fun q => by have := (hsm.1 D m h1 h2).2 q; split at this <;> omega⟩
      cases hfz : T.f zs with
      | some v =>
        have hfz' : T'.f zs = some v := by rw [hf]; exact hfz
        rw [hfz'] at h1 h2
        simp only [Option.getD_some, Option.isSome_some] at h1 h2
        have H1 := rep_stores2 (x := some (.int .i64 n)) R' hb' rfl (by simp [hfz'])
        have H2 : Hid (∃ T2 : AT, Rep Li ((wr.setCell ⟨b, 1, none⟩ (.int .i64 n)).setCell ⟨b, 2, none⟩ (.bool true)) t T2 ∧ T2.f = (fun q => if q = zs then some (.int .i64 n) else T.f q) ∧
          T2.ps = T.ps ∧ Fr T.own w ((wr.setCell ⟨b, 1, none⟩ (.int .i64 n)).setCell ⟨b, 2, none⟩ (.bool true)) ∧ (∀ j, T2.own j → T.own j ∨ w.heap.size ≤ j) ∧ (∀ D m, T.Small D m → zs.length ≤ D → T2.Small D (m + 1)) ∧ T.Grew T2 zs) :=
          ⟨_, H1, by simp [AT.upd, hf], by simp [AT.upd, hp], hFx _ rfl, ho, hsmm, hsm.2⟩
        clear H1 hFx hfz' hr R R' hf hp hF ho hsm hsmm hb hb' H0 h0 hE hmm0
        replace hfz := Lib.hid hfz
        go_wp2
        go_ret
        unfold PutPost
        rw [hfz.out]
        exact ⟨rfl, H2.out⟩
      | none =>
        have hfz' : T'.f zs = none := by rw [hf]; exact hfz
        rw [hfz'] at h1 h2
        simp only [Option.getD_none, Option.isSome_none] at h1 h2
        have hq := ps_put R'.ok (.int .i64 n) hfz'
        have H1 := rep_stores (x := some (.int .i64 n)) R' hb' hq.1 hq.2
        have hl : ((zs :: T'.ps).length : Int) = (T.ps.length : Int) + 1 := by rw [hp]; simp
        rw [hl] at H1
        have H2 : Hid (∃ T2 : AT, Rep Li (((wr.setCell ⟨b, 1, none⟩ (.int .i64 n)).setCell ⟨b, 2, none⟩ (.bool true)).setCell ⟨t, 3, none⟩ (.int .i64 ((T.ps.length : Int) + 1))) t T2 ∧ T2.f = (fun q => if q = zs then some (.int .i64 n) else T.f q) ∧
          T2.ps = zs :: T.ps ∧ Fr T.own w (((wr.setCell ⟨b, 1, none⟩ (.int .i64 n)).setCell ⟨b, 2, none⟩ (.bool true)).setCell ⟨t, 3, none⟩ (.int .i64 ((T.ps.length : Int) + 1))) ∧ (∀ j, T2.own j → T.own j ∨ w.heap.size ≤ j) ∧ (∀ D m, T.Small D m → zs.length ≤ D → T2.Small D (m + 1)) ∧ T.Grew T2 zs) :=
          ⟨_, H1, by simp [AT.upd, hf], by simp [AT.upd, hp], (hFx _ rfl).setCell (p := ⟨t, 3, none⟩) (.inl (own_N R.ok.root)) _, ho, hsmm, hsm.2⟩
        clear H1 hFx hfz' hr R R' hf hp hF ho hsm hsmm hb hb' H0 h0 hE hq hl hmm0
        replace hfz := Lib.hid hfz
        go_wp2
        go_ret
        unfold PutPost
        rw [hfz.out]
        exact ⟨rfl, H2.out⟩
end Go.Proofs.Ytioflglfnalcaaa
