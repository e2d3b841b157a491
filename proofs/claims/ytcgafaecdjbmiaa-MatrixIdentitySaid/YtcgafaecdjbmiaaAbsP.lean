/- From 'what was there stays' to what a law's row asks behind the call. -/
import Derived.Test.YtcgafaecdjbmiaaAbsM
import Derived.ChangeSame
namespace Go.YtcgafaecdjbmiaaAbs
open Go Go.RowKit Go.WideShapes Go.ChangeShapes

/-- A law answers one bool; its arguments read as they did; nothing that was there has turned. -/
theorem law_post {H : Type} {enc : TypeId × Value → H} {P : Program} {f : Func} {s : ChangeSpec} {apart fresh handsOn again : Bool} {W W' : World} {args : Array Value} {v : Value} {ds : List (DataW H)} {ps : List MemPlace}
    (hW : DataW.Whole enc P f.params.toList s.vars apart W args.toList ds [] ps) (hs : s.vars = []) (hb : Below W.heap.size W W')
    (hres : ∀ (b : Nat) (sp : Nat → Bool) (hd : Bool), DataW.TrodAll enc P W' b sp hd f.resultTypes.toList (v.resultList f.resultTypes.size) (s.fn H (ds ++ [])).results [])
    (hargs : ∀ sp : Nat → Bool, (∀ p ∈ ps, sp p.block = true) → DataW.TrodAll enc P W' 0 sp true f.params.toList args.toList (s.fn H (ds ++ [])).args ps)
    (hvars : (s.fn H (ds ++ [])).vars = [])
    (hok : ∀ (j : Nat) (t : TypeId) (r : Value), f.resultTypes[j]? = some t → (v.resultList f.resultTypes.size)[j]? = some r → Value.okWide P W' .any 0 t r) :
    s.post enc P f apart fresh handsOn again W args v W' := by
  have below : ∀ q ∈ ps, q.block < W.heap.size := fun q hq => hW.lt q hq
  have seen : ∀ q ∈ ps, (fun b => decide (b < W.heap.size)) q.block = true := fun q hq => by simpa using below q hq
  have none : ∀ sp : Nat → Bool, DataW.TrodVars enc P W' sp s.vars (s.fn H (ds ++ [])).vars [] := fun sp => by rw [hs, hvars]; exact rfl
  have same := hargs (fun b => decide (b < W.heap.size)) seen
  refine ⟨ds, [], ps, [], ps, [], hW, hres _ (fun _ => false) _, same, none (fun b => decide (b < W.heap.size)), World.keptBut_mono (fun q hq => ⟨hq, .inr (.inl hq)⟩) (hb.frame (· ∈ ps)), fun _ => ?_⟩
  obtain ⟨_, _, _, _, _, free, uniq⟩ := hW
  refine ⟨hok, _, _, ([] ++ ps) ++ [], ⟨[] ++ ps, [], trodAll_append (hargs _ (fun _ _ => rfl)) (hres _ _ _), none _, rfl, ?_, ?_⟩, fun q hq _ => by simpa using hq⟩
  · intro b off hq
    have hin : MemPlace.cell b off ∈ ps := by simpa using hq
    rw [hb.frozen (below _ hin)]
    exact free b off hin
  · intro ha
    simpa using uniq ha

end Go.YtcgafaecdjbmiaaAbs
