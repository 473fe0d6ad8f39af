/- Trie at another type of things: printed by inst.py from the texts of Trie[int]. -/
import Derived.Test.YtioflglfnalcaaaSt
namespace Go.Proofs.Ytioflglfnalcaaa
open Go.RowKit

theorem zero97 (w : World) : (zeroValue 97).run Try.prog w = .ok (.pointer none) w := by kernel_rfl


theorem look_s {L : Lay} {w : World} {t : Nat} {T : AT} (R : Rep L w t T) (p : List Int) (r : Int) :
    (Instr.lookup 91 (.map (T.M p)) (.int .i32 r) false).run Try.prog w = .ok (optPtr (T.N (p ++ [r]))) w := by
  cases hm : T.M p with
  | none =>
    rw [run_lookup_nil (P := Try.prog) Try.underlying91 Try.underlying21 (zero97 w)]
    have : T.N (p ++ [r]) = none := by
      cases hx : T.N (p ++ [r]) with
      | none => rfl
      | some c =>
        have h1 := ((R.ok.pre p r).1 (by simp [hx])).2
        rw [R.ok.mnone p hm] at h1; cases h1
    rw [this]; rfl
  | some m =>
    rw [run_lookup_ents (P := Try.prog) Try.underlying91 Try.underlying21 (zero97 w) r (R.map p m hm), R.ok.lookup]


def Ls : Lay := ⟨95, 93, .string ⟨#[]⟩⟩


set_option maxHeartbeats 400000 in
theorem find_s {L : Lay} (w : World) (t : Nat) (T : AT) (A : Option Addr) (cap : Nat) (zs : List Int) (R : Rep L w t T) (hlen : zs.length ≤ 140737488351232) (hr : RdI w A zs) :
    Calls Try.prog 51 #[ptr t, .slice A zs.length cap] w fun e w' => e = .returned (optPtr (T.N zs)) ∧ w = w' := by
  have hroot := Lib.hid R.ok.root
  go_enter Try.func51, Try.ntmps51
  go_wp2
  go_loop [5, 13] (fun p i => ∃ k b : Nat, k ≤ zs.length ∧ i = .int .i64 k ∧ Hid (T.N (zs.take k) = some b) ∧ p = ptr b) (fun _ i => zs.length - (intOf i).toNat)
  case atStart => exact ⟨0, t, by omega, rfl, by simpa using hroot, rfl⟩
  case round =>
    obtain ⟨k, b, hk, rfl, hb, rfl⟩ := hrel
    by_cases hlt : k < zs.length
    · obtain ⟨ab, off, rfl, hc⟩ := hr k hlt
      have hm := (node_cells R hb.out).1
      have ht := take_getD hlt
      have hL := look_s R (List.take k zs)
      generalize zs.getD k 0 = r at hc ht
      replace ht := Lib.hid ht
      have hl := hL r
      clear hL
      generalize List.take k zs = p at hb hm hl ht
      cases hx : T.N (p ++ [r]) with
      | none =>
        rw [hx] at hl
        simp only [optPtr] at hl
        have hfin : optPtr (T.N zs) = .pointer none := by rw [R.ok.take_none (k := k + 1) (by rw [ht.out]; exact hx)]; rfl
        replace hfin := Lib.hid hfin
        clear hx hr R
        generalize T.M p = M0 at hm hl
        go_wp2
        go_ret
        exact ⟨by rw [hfin.out]; rfl, rfl⟩
      | some b' =>
        rw [hx] at hl
        simp only [optPtr] at hl
        have hx' := Lib.hid hx
        clear hx hr R
        generalize T.M p = M0 at hm hl
        go_wp2
        go_round
        case rel => exact ⟨k + 1, b', by omega, by go_num, by rw [ht.out]; exact hx', rfl⟩
        case measure => simp [intOf]; omega
    · have e : k = zs.length := by omega
      subst e
      have hb' := hb.out
      rw [List.take_length] at hb'
      have hb2 := Lib.hid hb'
      clear hb'
      go_wp2
      go_ret
      exact ⟨by rw [hb2.out]; rfl, rfl⟩


set_option maxHeartbeats 400000 in
theorem get_s (w : World) (t : Nat) (T : AT) (A : Option Addr) (cap : Nat) (zs : List Int) (R : Rep Ls w t T) (hlen : zs.length ≤ 140737488351232) (hr : RdI w A zs) :
    Calls Try.prog 22 #[ptr t, .slice A zs.length cap] w fun e w' => e = .returned (.tuple #[(T.f zs).getD (.string ⟨#[]⟩), .bool (T.f zs).isSome]) ∧ w = w' := by
  have hfi := find_s w t T A cap zs R hlen hr
  cases hn : T.N zs with
  | none =>
    have hf : T.f zs = none := by
      cases hx : T.f zs with
      | none => rfl
      | some v => have := R.ok.fdom zs (by simp [hx]); rw [hn] at this; cases this
    rw [hn] at hfi
    simp only [optPtr] at hfi
    have H := Lib.hid hfi
    rw [hf]
    clear hfi hr R hn hf
    go_enter Try.func22, Try.ntmps22
    go_wp2_with (go_at_call 51; refine H.out.mono ?_; rintro e w' ⟨rfl, rfl⟩)
    go_ret2
    exact ⟨rfl, rfl⟩
  | some b =>
    rw [hn] at hfi
    simp only [optPtr] at hfi
    have H := Lib.hid hfi
    obtain ⟨h0, h1, h2⟩ := node_cells R hn
    clear hfi hr R hn h0
    cases hf : T.f zs with
    | none =>
      rw [hf] at h1 h2
      simp only [Option.getD_none, Option.isSome_none] at h1 h2
      clear hf
      go_enter Try.func22, Try.ntmps22
      go_wp2_with (go_at_call 51; refine H.out.mono ?_; rintro e w' ⟨rfl, rfl⟩)
      go_ret2
      exact ⟨rfl, rfl⟩
    | some v =>
      rw [hf] at h1 h2
      simp only [Option.getD_some, Option.isSome_some] at h1 h2
      clear hf
      go_enter Try.func22, Try.ntmps22
      go_wp2_with (go_at_call 51; refine H.out.mono ?_; rintro e w' ⟨rfl, rfl⟩)
      go_ret2
      exact ⟨rfl, rfl⟩


theorem len_s {L : Lay} (w : World) (t : Nat) (T : AT) (R : Rep L w t T) :
    Calls Try.prog 25 #[ptr t] w fun e w' => e = .returned (.int .i64 (T.ps.length : Int)) ∧ w = w' := by
  have h := root_cell R
  clear R
  go_enter Try.func25, Try.ntmps25
  go_wp2
  go_ret
  exact ⟨rfl, rfl⟩


theorem new_s (w : World) : Calls Try.prog 18 #[] w fun e w' => e = .returned (ptr w.heap.size) ∧ Rep Ls w' w.heap.size (AT.empty w.heap.size) ∧ w' = w.alloc (.cells #[.map none, .string ⟨#[]⟩, .bool false, .int .i64 0] 95) := by
  go_enter Try.func18, Try.ntmps18
  go_wp2
  go_ret
  exact ⟨rfl, rep_empty (heap_alloc_eq _ _), rfl⟩


set_option maxHeartbeats 400000 in
set_option maxRecDepth 100000 in
theorem put_s (w : World) (t : Nat) (T : AT) (A : Option Addr) (cap : Nat) (zs : List Int) (vs : ByteArray) (R : Rep Ls w t T) (hlen : zs.length ≤ 140737488351232) (hr : RdI w A zs)
    (ha : ∀ ad, A = some ad → zs ≠ [] → ¬ T.own ad.block) (hps : T.ps.length ≤ 140737488351232) :
    Calls Try.prog 21 #[ptr t, .slice A zs.length cap, .string vs] w (PutPost Ls w t T zs (.string vs)) := by
  have hmm0 := @run_makeMap Try.prog
  have hE := fun (W : World) (r : Option Nat) => run_eql_map_nil (P := Try.prog) W 91 21 97 r Try.underlying91
  have H0 : Hid (PutRel Ls w t T zs 0 t w) := ⟨T, by simpa using R.ok.root, R, rfl, rfl, Fr.refl _ _, fun j h => .inl h, AT.SmallTo.refl _ _⟩
  go_enter Try.func21, Try.ntmps21
  go_wp2
  go_loopw [7, 17] (fun p i wr => ∃ k b : Nat, k ≤ zs.length ∧ i = .int .i64 k ∧ p = ptr b ∧ Hid (PutRel Ls w t T zs k b wr)) (fun _ i _ => zs.length - (intOf i).toNat)
  case atStart => exact ⟨0, t, by omega, rfl, rfl, H0⟩
  case round =>
    obtain ⟨k, b, hk, rfl, rfl, hrel⟩ := hrel
    obtain ⟨T', hb, R', hf, hp, hF, ho, hsm⟩ := hrel.out
    by_cases hlt : k < zs.length
    · obtain ⟨ab, off, rfl, hc⟩ := (hr.frame hF ha) k hlt
      have hm := (node_cells R' hb).1
      have hfr := node_free R' hb 0
      have hbl := R'.lt (own_N hb)
      have ht := take_getD hlt
      have hL := look_s R' (List.take k zs)
      generalize zs.getD k 0 = r at hc ht
      replace ht := Lib.hid ht
      have hl := hL r
      clear hL
      generalize List.take k zs = p at hb hm hl ht
      cases hx : T'.N (p ++ [r]) with
      | some b' =>
        have H1 : Hid (PutRel Ls w t T zs (k + 1) b' wr) := ⟨T', by rw [ht.out]; exact hx, R', hf, hp, hF, ho, hsm.next⟩
        rw [hx] at hl
        simp only [optPtr] at hl
        clear hx hr R R' hf hp hF ho hsm hb ht H0
        generalize T'.M p = M0 at hm hl
        go_wp2
        go_roundw
        case rel => exact ⟨k + 1, b', by omega, by go_num, rfl, H1⟩
        case measure => simp [intOf]; omega
      | none =>
        rw [hx] at hl
        simp only [optPtr] at hl
        cases hmm : T'.M p with
        | some m =>
          have H1 := Lib.hid (putrel_map ht.out hb R' hf hp hF ho hsm hlt hx hmm)
          rw [hmm] at hl hm
          have hml := R'.lt (own_M hmm)
          have hmu := run_mapUpdate_new (w := wr.alloc (.cells #[.map none, Ls.z, .bool false] Ls.tn)) (v := ptr wr.heap.size) Try.underlying91 Try.underlying21 r (by rw [heap_alloc_lt hml]; exact R'.map p m hmm) (R'.ok.lookup_none (by rw [hb]; rfl) hx)
          clear hx hr R R' hf hp hF ho hsm hb ht H0 hmm hml
          simp only [Ls] at hmu
          go_wp2
          go_roundw
          case rel => exact ⟨k + 1, _, by omega, by go_num, rfl, H1⟩
          case measure => simp [intOf]; omega
        | none =>
          have H1 := Lib.hid (putrel_new (L := Ls) ht.out hb R' hf hp hF ho hsm hlt hx hmm rfl)
          rw [hmm] at hl hm
          have hmu := run_mapUpdate_new (P := Try.prog) (w := (((wr.setCell ⟨b, 0, none⟩ (.map (some (wr.heap.size + 1)))).alloc (.cells #[.map none, .string ⟨#[]⟩, .bool false] 93)).alloc (.map #[] 0))) (m := wr.heap.size + 1) (c := 0) (l := []) (b := 0) (v := ptr wr.heap.size) Try.underlying91 Try.underlying21 r
            (by have := heap_alloc_eq ((wr.setCell ⟨b, 0, none⟩ (.map (some (wr.heap.size + 1)))).alloc (.cells #[.map none, .string ⟨#[]⟩, .bool false] 93)) (.map #[] 0); rw [World.size_alloc, World.size_setCell] at this; exact this) rfl
          simp only [ents, List.nil_append] at hmu
          clear hx hr R R' hf hp hF ho hsm hb ht H0 hmm
          simp only [Ls] at H1
          go_wp2
          go_roundw
          case rel => exact ⟨k + 1, _, by omega, by go_num, rfl, H1⟩
          case measure => simp [intOf]; omega
    · have e : k = zs.length := by omega
      subst e
      have hb' := hb
      rw [List.take_length] at hb'
      obtain ⟨h0, h1, h2⟩ := node_cells R' hb'
      have f1 := node_free R' hb' 1
      have f2 := node_free R' hb' 2
      have f3 := node_free R' R'.ok.root 3
      have h3 := root_cell R'
      rw [hp] at h3
      have hFx : ∀ (W : World), W = ((wr.setCell ⟨b, 1, none⟩ (.string vs)).setCell ⟨b, 2, none⟩ (.bool true)) → Fr T.own w W := fun W hW => by
        subst hW
        exact (hF.setCell (p := ⟨b, 1, none⟩) (ho b (own_N hb)) _).setCell (p := ⟨b, 2, none⟩) (ho b (own_N hb)) _
      have hsmm : ∀ D m, T.Small D m → zs.length ≤ D → T'.Small D (m + 1) := fun D m h1 h2 => ⟨(hsm.1 D m h1 h2).1, fun q => by have := (hsm.1 D m h1 h2).2 q; split at this <;> omega⟩
      cases hfz : T.f zs with
      | some v =>
        have hfz' : T'.f zs = some v := by rw [hf]; exact hfz
        rw [hfz'] at h1 h2
        simp only [Option.getD_some, Option.isSome_some] at h1 h2
        have H1 := rep_stores2 (x := some (.string vs)) R' hb' rfl (by simp [hfz'])
        have H2 : Hid (∃ T2 : AT, Rep Ls ((wr.setCell ⟨b, 1, none⟩ (.string vs)).setCell ⟨b, 2, none⟩ (.bool true)) t T2 ∧ T2.f = (fun q => if q = zs then some (.string vs) else T.f q) ∧
          T2.ps = T.ps ∧ Fr T.own w ((wr.setCell ⟨b, 1, none⟩ (.string vs)).setCell ⟨b, 2, none⟩ (.bool true)) ∧ (∀ j, T2.own j → T.own j ∨ w.heap.size ≤ j) ∧ (∀ D m, T.Small D m → zs.length ≤ D → T2.Small D (m + 1)) ∧ T.Grew T2 zs) :=
          ⟨_, H1, by simp [AT.upd, hf], by simp [AT.upd, hp], hFx _ rfl, ho, hsmm, hsm.2⟩
        clear H1 hFx hfz' hr R R' hf hp hF ho hsm hsmm hb hb' H0 h0 hE hmm0
        replace hfz := Lib.hid hfz
        go_wp2
        go_ret
        unfold PutPost
        rw [hfz.out]
        exact ⟨rfl, H2.out⟩
      | none =>
        have hfz' : T'.f zs = none := by rw [hf]; exact hfz
        rw [hfz'] at h1 h2
        simp only [Option.getD_none, Option.isSome_none] at h1 h2
        have hq := ps_put R'.ok (.string vs) hfz'
        have H1 := rep_stores (x := some (.string vs)) R' hb' hq.1 hq.2
        have hl : ((zs :: T'.ps).length : Int) = (T.ps.length : Int) + 1 := by rw [hp]; simp
        rw [hl] at H1
        have H2 : Hid (∃ T2 : AT, Rep Ls (((wr.setCell ⟨b, 1, none⟩ (.string vs)).setCell ⟨b, 2, none⟩ (.bool true)).setCell ⟨t, 3, none⟩ (.int .i64 ((T.ps.length : Int) + 1))) t T2 ∧ T2.f = (fun q => if q = zs then some (.string vs) else T.f q) ∧
          T2.ps = zs :: T.ps ∧ Fr T.own w (((wr.setCell ⟨b, 1, none⟩ (.string vs)).setCell ⟨b, 2, none⟩ (.bool true)).setCell ⟨t, 3, none⟩ (.int .i64 ((T.ps.length : Int) + 1))) ∧ (∀ j, T2.own j → T.own j ∨ w.heap.size ≤ j) ∧ (∀ D m, T.Small D m → zs.length ≤ D → T2.Small D (m + 1)) ∧ T.Grew T2 zs) :=
          ⟨_, H1, by simp [AT.upd, hf], by simp [AT.upd, hp], (hFx _ rfl).setCell (p := ⟨t, 3, none⟩) (.inl (own_N R.ok.root)) _, ho, hsmm, hsm.2⟩
        clear H1 hFx hfz' hr R R' hf hp hF ho hsm hsmm hb hb' H0 h0 hE hq hl hmm0
        replace hfz := Lib.hid hfz
        go_wp2
        go_ret
        unfold PutPost
        rw [hfz.out]
        exact ⟨rfl, H2.out⟩

theorem stn_s (w : World) : Calls Try.prog 18 #[] w fun e w' => ∃ t, e = .returned (ptr t) ∧ St Ls w t (fun _ => none) [] 0 0 (AT.empty t) w' :=
  (new_s w).mono fun e w' ⟨h1, h2, h3⟩ => ⟨_, h1, ⟨h2, rfl, rfl, AT.empty_small _ _, (fun j hj => by
    rcases hj with ⟨p, hp⟩ | ⟨p, hp⟩
    · simp only [AT.empty] at hp
      split at hp
      · injection hp with hp; omega
      · cases hp
    · cases hp), by rw [h3]; exact (Below.refl _ w).alloc (Nat.le_refl _) _⟩⟩


variable {w0 w : World} {t : Nat} {f : List Int → Option Value} {ps : List (List Int)} {D m : Nat} {T : AT}

def PutPs (w0 : World) (t : Nat) (b : Bool) (f : List Int → Option Value) (ps : List (List Int)) (D m : Nat) (e : Ending) (w' : World) : Prop :=
  e = .returned (.bool b) ∧ ∃ T', St Ls w0 t f ps D m T' w'

theorem stput_s (S : St Ls w0 t f ps D m T w) (A : Option Addr) (cap : Nat) (zs : List Int) (vs : ByteArray) (hlen : zs.length ≤ 140737488351232) (hr : RdI w A zs) (ha : ∀ ad, A = some ad → zs ≠ [] → ¬ T.own ad.block) (hps : ps.length ≤ 140737488351232)
    {b : Bool} (hb : (f zs).isSome = b) {ps' : List (List Int)} (hp : (if b = true then ps else zs :: ps) = ps') {D' : Nat} (hD : D ≤ D') (hz : zs.length ≤ D') :
    Calls Try.prog 21 #[ptr t, .slice A zs.length cap, .string vs] w (PutPs w0 t b (fun q => if q = zs then some (.string vs) else f q) ps' D' (m + 1)) := by
  refine (put_s w t T A cap zs vs S.rep hlen hr ha (by rw [S.hps]; exact hps)).mono ?_
  rintro e w' ⟨h1, T', h2, h3, h4, h5, h6, h7, _⟩
  rw [S.hf] at h1 h3 h4
  rw [S.hps] at h4
  rw [hb] at h1 h4
  refine ⟨h1, T', h2, h3, h4.trans hp, h7 D' m ⟨fun q hq => Nat.le_trans (S.small.1 q hq) hD, S.small.2⟩ hz, fun j hj => ?_, S.below.trans (h5.below S.below.size fun j hj => S.own j hj)⟩
  rcases h6 j hj with h | h
  · exact S.own j h
  · have := S.below.size; omega


theorem stget_s (S : St Ls w0 t f ps D m T w) (A : Option Addr) (cap : Nat) (zs : List Int) (hlen : zs.length ≤ 140737488351232) (hr : RdI w A zs) {b : Bool} (hb : (f zs).isSome = b) {v : Value} (hv : (f zs).getD (.string ⟨#[]⟩) = v) :
    Calls Try.prog 22 #[ptr t, .slice A zs.length cap] w (GetP v b w) :=
  (get_s w t T A cap zs S.rep hlen hr).mono fun e w' ⟨h1, h2⟩ => ⟨by rw [h1, S.hf, hb, hv], h2⟩


theorem stlen_s (S : St Ls w0 t f ps D m T w) {n : Nat} (hn : ps.length = n) : Calls Try.prog 25 #[ptr t] w fun e w' => e = .returned (.int .i64 (n : Int)) ∧ w = w' :=
  (len_s w t T S.rep).mono fun e w' ⟨h1, h2⟩ => ⟨by rw [h1, S.hps, hn], h2⟩


end Go.Proofs.Ytioflglfnalcaaa
