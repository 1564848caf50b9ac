import Derived.Test.YtlboejdhmggjpaaGreatXcE
import Derived.Test.YtlboejdhmggjpaaGreatXdO
import Derived.Test.YtlboejdhmggjpaaGreatXdQ
set_option linter.all false
namespace Go.Proofs.YtlboejdhmggjpaaGreat.Pp.Dr
open Go.RowKit Go.BigFrame Go.Proofs.YtlboejdhmggjpaaGreat
theorem anb{gb:Nat}{L:List Ct}{vr:Value}(n:Nat):Wd gb L vr n:=by
 induction n using Nat.strongRecOn with
 |ind n ih=>
 exact{
  seq:=fun hx hy h=>alz ih hx hy h
  ay:=fun{S w y gy s g f xs} hx hy h=>by
   cases y with
   |tx t=>exact acd hx hy h
   |nm t=>exact ace amc ih hx hy h
   |dO a=>exact ZK ih hx hy h
   |jy a=>exact ZL ih hx hy h
   |bV a=>exact ZN ih hx hy h
  call:=fun{S w t s g xs} hx h=>by
   by_cases ht:t∈rZ
   ·simp only[rZ,abf,abZ,acz]at ht
    rcases ht with ht|ht|ht|ht|ht|ht|ht|ht|ht|ht
    ·exact UF ih ht hx h
    ·exact QA ht hx h
    ·exact Ll ht hx h
    ·exact Oy ih ht hx h
    ·exact Oz ih ht hx h
    ·exact OA ih ht hx h
    ·exact UG ih ht hx h
    ·exact OB ih ht hx h
    ·exact OC ih ht hx h
    ·exact M0 ih ht hx h
   ·exact(IZ ih ht hx h).mono fun e w' h=>h.ps
  agp:=fun ht hx h=>IZ ih ht hx h
  dh:=fun hx h=>aeL (fun m hm=>aik (ih m hm)) hx h
  dB:=fun hx h=>K7 ih hx h
  dx:=fun hx h=>acA ih hx h
  assign:=fun hx h=>acE ih hx h
  args:=fun hx h=>aiq ih hx h
  jT:=fun hx h=>aij ih (fun m hm=>acv (ih m hm)) hx h}
end Go.Proofs.YtlboejdhmggjpaaGreat.Pp.Dr
