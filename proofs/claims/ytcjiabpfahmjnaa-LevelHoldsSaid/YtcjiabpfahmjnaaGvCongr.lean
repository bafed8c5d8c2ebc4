/- What is looked at first: the values, not what comes behind. -/
import Derived.Test.YtcjiabpfahmjnaaGvOpS
set_option linter.unusedVariables false
namespace Gv
open Go
@[congr] theorem cg_binV {P : Program} {K : GVal → Prop} {op : BinOp} {t : TypeId} {x y : GVal} {x' : GVal} {y' : GVal} (h0 : x = x') (h1 : y = y') : binV P op t x y K = binV P op t x' y' K := by
  subst h0; subst h1; rfl
@[congr] theorem cg_unV {K : GVal → Prop} {op : UnOp} {x : GVal} {x' : GVal} (h0 : x = x') : unV op x K = unV op x' K := by
  subst h0; rfl
@[congr] theorem cg_convV {P : Program} {K : GVal → Prop} {s t : TypeId} {x : GVal} {x' : GVal} (h0 : x = x') : convV P s t x K = convV P s t x' K := by
  subst h0; rfl
@[congr] theorem cg_loadV {P : Program} {K : GVal → Prop} {t : TypeId} {g : GVal} {O : List GObj} {g' : GVal} {O' : List GObj} (h0 : g = g') (h1 : O = O') : loadV P t g O K = loadV P t g' O' K := by
  subst h0; subst h1; rfl
@[congr] theorem cg_storeV {P : Program} {K : List GObj → Prop} {t : TypeId} {g v : GVal} {O : List GObj} {g' : GVal} {v' : GVal} {O' : List GObj} (h0 : g = g') (h1 : v = v') (h2 : O = O') : storeV P t g v O K = storeV P t g' v' O' K := by
  subst h0; subst h1; subst h2; rfl
@[congr] theorem cg_fieldAddrV {P : Program} {K : GVal → Prop} {s : TypeId} {g : GVal} {f : Nat} {g' : GVal} (h0 : g = g') : fieldAddrV P s g f K = fieldAddrV P s g' f K := by
  subst h0; rfl
@[congr] theorem cg_fieldV {P : Program} {K : GVal → Prop} {s : TypeId} {g : GVal} {f : Nat} {g' : GVal} (h0 : g = g') : fieldV P s g f K = fieldV P s g' f K := by
  subst h0; rfl
@[congr] theorem cg_indexAddrV {P : Program} {K : GVal → Prop} {t : TypeId} {g i : GVal} {O : List GObj} {g' : GVal} {i' : GVal} {O' : List GObj} (h0 : g = g') (h1 : i = i') (h2 : O = O') : indexAddrV P t g i O K = indexAddrV P t g' i' O' K := by
  subst h0; subst h1; subst h2; rfl
@[congr] theorem cg_indexV {P : Program} {K : GVal → Prop} {t : TypeId} {g i : GVal} {g' : GVal} {i' : GVal} (h0 : g = g') (h1 : i = i') : indexV P t g i K = indexV P t g' i' K := by
  subst h0; subst h1; rfl
@[congr] theorem cg_extractV {K : GVal → Prop} {g : GVal} {n : Nat} {g' : GVal} (h0 : g = g') : extractV g n K = extractV g' n K := by
  subst h0; rfl
@[congr] theorem cg_allocV {P : Program} {K : GVal → List GObj → Prop} {t : TypeId} {O : List GObj} {O' : List GObj} (h0 : O = O') : allocV P t O K = allocV P t O' K := by
  subst h0; rfl
@[congr] theorem cg_lookupV {P : Program} {K : GVal → Prop} {t : TypeId} {m x : GVal} {ok : Bool} {O : List GObj} {m' : GVal} {x' : GVal} {O' : List GObj} (h0 : m = m') (h1 : x = x') (h2 : O = O') : lookupV P t m x ok O K = lookupV P t m' x' ok O' K := by
  subst h0; subst h1; subst h2; rfl
@[congr] theorem cg_mapUpdateV {P : Program} {K : List GObj → Prop} {t : TypeId} {m x v : GVal} {O : List GObj} {m' : GVal} {x' : GVal} {v' : GVal} {O' : List GObj} (h0 : m = m') (h1 : x = x') (h2 : v = v') (h3 : O = O') : mapUpdateV P t m x v O K = mapUpdateV P t m' x' v' O' K := by
  subst h0; subst h1; subst h2; subst h3; rfl
@[congr] theorem cg_deleteV {P : Program} {K : List GObj → Prop} {t : TypeId} {m x : GVal} {O : List GObj} {m' : GVal} {x' : GVal} {O' : List GObj} (h0 : m = m') (h1 : x = x') (h2 : O = O') : deleteV P t m x O K = deleteV P t m' x' O' K := by
  subst h0; subst h1; subst h2; rfl
@[congr] theorem cg_makeMapV {K : GVal → List GObj → Prop} {O : List GObj} {O' : List GObj} (h0 : O = O') : makeMapV O K = makeMapV O' K := by
  subst h0; rfl
@[congr] theorem cg_boxV {K : GVal → List GObj → Prop} {b : Bool} {g : GVal} {O : List GObj} {b' : Bool} {g' : GVal} {O' : List GObj} (h0 : b = b') (h1 : g = g') (h2 : O = O') : boxV b g O K = boxV b' g' O' K := by
  subst h0; subst h1; subst h2; rfl
@[congr] theorem cg_buildV {P : Program} {K : GVal → Prop} {t : TypeId} {gs : List (Nat × GVal)} {gs' : List (Nat × GVal)} (h0 : gs = gs') : buildV P t gs K = buildV P t gs' K := by
  subst h0; rfl
@[congr] theorem cg_buildSliceV {P : Program} {K : GVal → Prop} {t : TypeId} {n : Nat} {gs : List (Nat × GVal)} {gs' : List (Nat × GVal)} (h0 : gs = gs') : buildSliceV P t n gs K = buildSliceV P t n gs' K := by
  subst h0; rfl
@[congr] theorem cg_sliceV {P : Program} {K : GVal → Prop} {t : TypeId} {g : GVal} {lo hi mx : Option GVal} {O : List GObj} {g' : GVal} {lo' : Option GVal} {hi' : Option GVal} {mx' : Option GVal} {O' : List GObj} (h0 : g = g') (h1 : lo = lo') (h2 : hi = hi') (h3 : mx = mx') (h4 : O = O') : sliceV P t g lo hi mx O K = sliceV P t g' lo' hi' mx' O' K := by
  subst h0; subst h1; subst h2; subst h3; subst h4; rfl
@[congr] theorem cg_nilV {K : GVal → Prop} {g : GVal} {g' : GVal} (h0 : g = g') : nilV g K = nilV g' K := by
  subst h0; rfl
@[congr] theorem cg_ifaceV {P : Program} {K : GVal → Prop} {t : TypeId} {g : GVal} {g' : GVal} (h0 : g = g') : ifaceV P t g K = ifaceV P t g' K := by
  subst h0; rfl
@[congr] theorem cg_lenV {P : Program} {K : GVal → Prop} {t : TypeId} {g : GVal} {O : List GObj} {g' : GVal} {O' : List GObj} (h0 : g = g') (h1 : O = O') : lenV P t g O K = lenV P t g' O' K := by
  subst h0; subst h1; rfl
@[congr] theorem cg_capV {P : Program} {K : GVal → Prop} {t : TypeId} {g : GVal} {g' : GVal} (h0 : g = g') : capV P t g K = capV P t g' K := by
  subst h0; rfl
@[congr] theorem cg_minV {K : GVal → Prop} {b : Bool} {xs : List GVal} {xs' : List GVal} (h0 : xs = xs') : minV b xs K = minV b xs' K := by
  subst h0; rfl
@[congr] theorem cg_appendV {P : Program} {K : GVal → List GObj → Prop} {b : Bool} {t u : TypeId} {x y : GVal} {O : List GObj} {b' : Bool} {x' : GVal} {y' : GVal} {O' : List GObj} (h0 : b = b') (h1 : x = x') (h2 : y = y') (h3 : O = O') : appendV P b t u x y O K = appendV P b' t u x' y' O' K := by
  subst h0; subst h1; subst h2; subst h3; rfl
@[congr] theorem cg_opS {P : Program} {R : List Nat} {K : GVal → List GObj → Prop} {d : Option Nat} {op : Op} {st : GSt} {st' : GSt} (h0 : st = st') : opS P R st d op K = opS P R st' d op K := by
  subst h0; rfl
@[congr] theorem cg_opsS {P : Program} {R : List Nat} {K : GSt → Prop} {l : List SOp} {st : GSt} {st' : GSt} (h0 : st = st') : opsS P R l K st = opsS P R l K st' := by
  subst h0; rfl
@[congr] theorem cg_ordS {P : Program} {R : List Nat} {K : GSt → Prop} {l : List (SOp × Nat)} {st : GSt} {st' : GSt} (h0 : st = st') : ordS P R l K st = ordS P R l K st' := by
  subst h0; rfl
@[congr] theorem cg_vcS {P : Program} {R : List Nat} {Q : Ex → GSt → Prop} {s : SCode} {st : GSt} {st' : GSt} (h0 : st = st') : vcS P R s Q st = vcS P R s Q st' := by
  subst h0; rfl
@[congr] theorem cg_loop {P : Program} {R : List Nat} {Q : Ex → GSt → Prop} {s : SCode} {st : GSt} {st' : GSt} (h0 : st = st') : vcSLoop P R s Q st = vcSLoop P R s Q st' := by
  subst h0; rfl
@[congr] theorem cg_gif {p q : Prop} {b : Bool} {b' : Bool} (h0 : b = b') : gif b p q = gif b' p q := by
  subst h0; rfl
@[congr] theorem cg_GCalls {P : Program} {f : FuncId} {K : GVal → List GObj → Prop} {as : List GVal} {O : List GObj} {as' : List GVal} {O' : List GObj} (h0 : as = as') (h1 : O = O') : GCalls P f as O K = GCalls P f as' O' K := by
  subst h0; subst h1; rfl
@[congr] theorem cg_retQ {P : Program} {rs : List ResultVar} {K : GVal → List GObj → Prop} {e : Ex} {st : GSt} {st' : GSt} (h0 : st = st') : retQ P rs K e st = retQ P rs K e st' := by
  subst h0; rfl
@[congr] theorem cg_thenQ {N : GSt → Prop} {Q : Ex → GSt → Prop} {e : Ex} {st : GSt} {st' : GSt} (h0 : st = st') : thenQ N Q e st = thenQ N Q e st' := by
  subst h0; rfl
@[congr] theorem cg_blockQ {n : Nat} {Q : Ex → GSt → Prop} {e : Ex} {st : GSt} {st' : GSt} (h0 : st = st') : blockQ n Q e st = blockQ n Q e st' := by
  subst h0; rfl
end Gv
